/- Part of the proof. -/
import Derived.KernelRfl
import Derived.Test.YtijakakpbijdkaaGreatDoorA7
set_option linter.all false
set_option linter.unusedVariables false
set_option linter.unusedSectionVars false
set_option linter.unusedSimpArgs false
namespace Go.V.G
open Go.Proofs
open Go.V.K
theorem le_of_nlt {a b:Int} (h:¬ a < b):b≤a:=by omega
theorem nle_of_lt {a b:Int} (h:a < b):¬ b≤a:=by omega
theorem lt_of_nge {a b:Int} (h:¬ a ≥ b):a < b:=by omega
theorem nlt_of_ge {a b:Int} (h:a ≥ b):¬ a < b:=by omega
theorem lt_of_nle {a b:Int} (h:¬ a≤b):b < a:=by omega
theorem nlt_of_le {a b:Int} (h:a≤b):¬ b < a:=by omega
abbrev tN:Ty:=.pair yI (.pair (.sl yI) .unit)
abbrev tR:Ty:=.pair yI (.pair yI (.pair .bool (.pair (.sl yI) (.pair .bool (.pair (.sl yI) .unit)))))
def rowOk (l:List Nm) (j:Nat):Bool :=
 decide (0≤(at_ tN l j).1) && (decide ((at_ tN l j).1 < 24) && ((decide (j = 0) || decide ((at_ tN l ((j - 1:Nat):Int)).1 < (at_ tN l j).1)) && okLb (at_ tN l j).2.1))
def rowsOk (l:List Nm):Bool:=(List.range l.length).all (rowOk l)
theorem asc_adj {l:List Nm} (h:∀ j (h:j < l.length),0 < j→(l[j - 1]'(by omega)).1 < l[j].1):l.Pairwise (fun a b=>a.1 < b.1):=by
 rw [List.pairwise_iff_getElem]
 intro i j hi hj hij
 induction j with
 | zero=>omega
 | succ j ih =>
  have h1:=h (j + 1) hj (by omega)
  by_cases e:i = j
  ·subst e; exact h1
  ·exact Int.lt_trans (ih (by omega) (by omega)) h1
theorem rowsOk_iff {l:List Nm}:rowsOk l = true ↔ okRow l:=by
 unfold rowsOk okRow
 rw [List.all_eq_true]
 constructor
 ·intro h
  have h':∀ j (hj:j < l.length),rowOk l j = true:=fun j hj=>h j (List.mem_range.2 hj)
  constructor
  ·intro n hn
   obtain ⟨j,hj,rfl⟩:=List.mem_iff_getElem.1 hn
   have:=h' j hj
   simp only [rowOk,Bool.and_eq_true,decide_eq_true_eq,atN tN l j hj] at this
   exact ⟨mem_ids.2 ⟨this.1,this.2.1⟩,okLb_iff.1 this.2.2.2⟩
  ·refine asc_adj fun j hj h0=>?_
   have:=h' j hj
   simp only [rowOk,Bool.and_eq_true,decide_eq_true_eq,atN tN l j hj,atN tN l (j - 1) (by omega),Bool.or_eq_true] at this
   rcases this.2.2.1 with h1 | h1
   ·omega
   ·exact h1
 ·rintro ⟨h1,h2⟩ j hj
  have hj:=List.mem_range.1 hj
  have h3:=h1 _ (List.getElem_mem hj)
  have h4:=mem_ids.1 h3.1
  simp only [rowOk,Bool.and_eq_true,decide_eq_true_eq,atN tN l j hj,Bool.or_eq_true]
  refine ⟨h4.1,h4.2,?_,okLb_iff.2 h3.2⟩
  by_cases h0:j = 0
  ·exact .inl h0
  ·rw [atN tN l (j - 1) (by omega)]
   exact .inr (List.pairwise_iff_getElem.1 h2 (j - 1) j (by omega) hj (by omega))
def smR (l:List Nm):Prop:=l.length≤1000000∧∀ n∈l,n.2.1.length≤1000000
def smC (c:Ct):Prop:=c.1.length = 8∧∀ l∈c.1,smR l
def validC (c:Ct):Bool:=decide (c.1.getD 0 [] = []) && kinds.all fun k=>rowsOk (c.1.getD k.toNat [])
theorem validC_iff {c:Ct} (h:c.1.length = 8):validC c = true ↔ okC c:=by
 unfold validC okC
 simp only [Bool.and_eq_true,decide_eq_true_eq,List.all_eq_true]
 constructor
 ·rintro ⟨h1,h2⟩
  exact ⟨h,h1,fun k hk=>rowsOk_iff.1 (h2 k hk)⟩
 ·rintro ⟨_,h1,h2⟩
  exact ⟨h1,fun k hk=>rowsOk_iff.2 (h2 k hk)⟩
theorem smR_at {l:List Nm} (h:smR l) (j:Nat) (hj:j < l.length):(at_ tN l j).2.1.length≤1000000:=by
 rw [atN tN l j hj]
 exact h.2 _ (List.getElem_mem hj)
theorem f39_l6_eq (t3:Int) (l:List Nm) (b:List (List Nm)) (h:smR l) (k:Nat) (hk:l.length < k) :
  f39_l6 t3 l b k 0 = some (if ((List.range l.length).all fun j=>!decide (t3 = 0) && rowOk l j) then .inl ((t3,()),(),((b,()),())) else .inr ((false,()),(),())):=by
 refine all_loop l.length (fun j=>!decide (t3 = 0) && rowOk l j) (f39_l6 t3 l b) _ _ (fun k j hj=>?_) k hk
 conv=>lhs; unfold f39_l6
 have h1:=h.1
 by_cases h:j < l.length
 ·have hlab:=f81_eq _ (smR_at ‹smR l› j h)
  simp only [Int.ofNat_lt,inRN,h,decide_true,cond_true,if_true,wS j (by omega),rowOk]
  by_cases e0:t3 = 0
  ·simp [e0]
  ·simp only [e0,decide_false,cond_false,Bool.not_false,Bool.true_and]
   by_cases e1:(at_ tN l j).1 < 0
   ·have:¬ 0≤(at_ tN l j).1:=nle_of_lt e1
    simp [e1,this]
   ·have e1':0≤(at_ tN l j).1:=le_of_nlt e1
    simp only [e1,decide_false,cond_false,e1',decide_true,Bool.true_and]
    by_cases e2:(at_ tN l j).1 ≥ 24
    ·have:¬ (at_ tN l j).1 < 24:=nlt_of_ge e2
     simp [e2,this]
    ·have e2':(at_ tN l j).1 < 24:=lt_of_nge e2
     simp only [e2,decide_false,cond_false,e2',decide_true,Bool.true_and]
     by_cases e3:j = 0
     ·subst e3
      have:decide (((0:Nat):Int) > 0) = false:=by decide
      simp only [this,cond_false,decide_true,Bool.true_or,Bool.true_and,hlab,Option.bind_some]
      cases okLb (at_ tN l ((0:Nat):Int)).2.1 <;> simp
     ·have e4:decide ((j:Int) > 0) = true:=by simp; omega
      simp only [e4,cond_true,wP j (by omega) (by omega),inRN,show j - 1 < l.length by omega,decide_true,e3,decide_false,Bool.false_or]
      by_cases e5:(at_ tN l j).1≤(at_ tN l ((j - 1:Nat):Int)).1
      ·have:¬ (at_ tN l ((j - 1:Nat):Int)).1 < (at_ tN l j).1:=nlt_of_le e5
       simp [e5,this]
      ·have e5':(at_ tN l ((j - 1:Nat):Int)).1 < (at_ tN l j).1:=lt_of_nle e5
       simp only [e5,decide_false,cond_false,e5',decide_true,Bool.true_and,hlab,Option.bind_some]
       cases okLb (at_ tN l (j:Int)).2.1 <;> simp
 ·simp only [Int.ofNat_lt,h,decide_false,cond_false,if_false]
theorem row_at {c:Ct} (h:c.1.length = 8) (j:Nat) (hj:j < 8):at_ (.sl tN) c.1 (j:Int) = c.1.getD j []:=by
 unfold at_
 rw [Int.toNat_natCast]
 rfl
theorem row_sm {c:Ct} (h:smC c) (j:Nat):smR (c.1.getD j []):=by
 rw [List.getD_eq_getElem?_getD]
 by_cases e:j < c.1.length
 ·rw [List.getElem?_eq_getElem e]
  exact h.2 _ (List.getElem_mem e)
 ·rw [List.getElem?_eq_none (by omega)]
  exact ⟨by simp,by simp⟩
theorem valid_range (c:Ct):validC c = (List.range 8).all fun k=>if k = 0 then decide (c.1.getD 0 [] = []) else rowsOk (c.1.getD k []):=by
 rfl
theorem f39_eq (c:Ct) (h:smC c):f39 c = some (validC c,()):=by
 unfold f39
 have hl:=all_loop 8 (fun k=>if k = 0 then decide (c.1.getD 0 [] = []) else rowsOk (c.1.getD k [])) (fun k j=>f39_l2 k j c.1) (.inl ((),(),())) (.inr ((false,()),(),())) (by
  intro k j hj
  conv=>lhs; unfold f39_l2
  by_cases e:j < 8
  ·have e1:decide ((j:Int) < 8) = true:=by simp; omega
   have hs:=row_sm h j
   simp only [e1,cond_true,inRN,e,decide_true,if_true,row_at h.1 j e]
   rw [f39_l6_eq (j:Int) _ c.1 hs _ (by omega)]
   simp only [Option.bind_some]
   by_cases e0:j = 0
   ·subst e0
    cases hr:c.1.getD 0 [] with
    | nil=>simp; rfl
    | cons x l=>simp [List.range_succ_eq_map]
   ·have e2:decide ((j:Int) = 0) = false:=by simp; omega
    simp only [e2,Bool.not_false,Bool.true_and,e0,if_false]
    show (Sum.elim _ _ (if rowsOk (c.1.getD j []) = true then _ else _)) = _
    cases rowsOk (c.1.getD j []) with
    | true=>simp only [if_true,Sum.elim_inl,wS j (by omega)]
    | false=>simp
  ·have e1:decide ((j:Int) < 8) = false:=by simp; omega
   simp only [e1,cond_false,e,if_false]) (((8:Int) - 0).toNat + 1) (by decide)
 refine bind_step hl ?_
 rw [← valid_range]
 cases validC c <;> simp
theorem f35_l5_eq (l:List Nm) (t9 t10:Int) (b:List (List Nm)) (h:smR l) (k:Nat) (hk:l.length < k) :
  f35_l5 l t9 t10 l (l.length:Int) b k 0 = some (if rowsOk l then .inl ((t9,t10,()),(),((b,()),())) else .inr ((false,()),(),())):=by
 refine all_loop l.length (rowOk l) (f35_l5 l t9 t10 l (l.length:Int) b) _ _ (fun k j hj=>?_) k hk
 conv=>lhs; unfold f35_l5
 have h1:=h.1
 by_cases h:j < l.length
 ·have hlab:=f65_eq _ (smR_at ‹smR l› j h)
  simp only [Int.ofNat_lt,inRN,h,decide_true,cond_true,if_true,wS j (by omega),rowOk]
  by_cases e1:(at_ tN l j).1 < 0
  ·have:¬ 0≤(at_ tN l j).1:=nle_of_lt e1
   simp [e1,this]
  ·have e1':0≤(at_ tN l j).1:=le_of_nlt e1
   simp only [e1,decide_false,cond_false,e1',decide_true,Bool.true_and]
   by_cases e2:(at_ tN l j).1 ≥ 24
   ·have:¬ (at_ tN l j).1 < 24:=nlt_of_ge e2
    simp [e2,this]
   ·have e2':(at_ tN l j).1 < 24:=lt_of_nge e2
    simp only [e2,decide_false,cond_false,e2',decide_true,Bool.true_and]
    by_cases e3:j = 0
    ·subst e3
     have:decide (((0:Nat):Int) > 0) = false:=by decide
     simp only [this,cond_false,decide_true,Bool.true_or,Bool.true_and,hlab,Option.bind_some]
     cases okLb (at_ tN l ((0:Nat):Int)).2.1 <;> simp
    ·have e4:decide ((j:Int) > 0) = true:=by simp; omega
     simp only [e4,cond_true,wP j (by omega) (by omega),inRN,show j - 1 < l.length by omega,decide_true,e3,decide_false,Bool.false_or]
     by_cases e5:(at_ tN l ((j - 1:Nat):Int)).1 ≥ (at_ tN l j).1
     ·have:¬ (at_ tN l ((j - 1:Nat):Int)).1 < (at_ tN l j).1:=nlt_of_ge e5
      simp [e5,this]
     ·have e5':(at_ tN l ((j - 1:Nat):Int)).1 < (at_ tN l j).1:=lt_of_nge e5
      simp only [e5,decide_false,cond_false,e5',decide_true,Bool.true_and,hlab,Option.bind_some]
      cases okLb (at_ tN l (j:Int)).2.1 <;> simp
 ·simp only [Int.ofNat_lt,h,decide_false,cond_false,if_false]
theorem f35_eq (c:Ct) (h:smC c):f35 c = some (validC c,()):=by
 unfold f35
 have e7:(cutLen 8 (some (1:Int)) none) = 7:=by decide
 have eo:cutOk 8 (some (1:Int)) none = true:=by decide
 simp only [e7,eo,cond_true]
 have hl:=all_loop 7 (fun k=>rowsOk (c.1.getD (k + 1) [])) (fun k j=>f35_l2 k 7 j c.1) (.inl ((),(),((c.1,()),()))) (.inr ((false,()),(),())) (by
  intro k j hj
  conv=>lhs; unfold f35_l2
  by_cases e:j < 7
  ·have e1:decide ((j:Int) < 7) = true:=by simp; omega
   have hs:=row_sm h (j + 1)
   have e2:((Int.toNat (1:Int):Nat):Int) + (j:Int) = ((j + 1:Nat):Int):=by simp; omega
   simp only [e1,cond_true,e7,inRN,e,decide_true,if_true,e2,row_at h.1 (j + 1) (by omega)]
   rw [f35_l5_eq _ 7 (j:Int) c.1 hs _ (by omega)]
   simp only [Option.bind_some]
   cases rowsOk (c.1.getD (j + 1) []) with
   | true =>
    show f35_l2 k 7 (IntKind.wrap .i64 ((j:Int) + 1)) c.1 = f35_l2 k 7 ((j + 1:Nat):Int) c.1
    rw [wS j (by omega)]
   | false=>rfl
  ·have e1:decide ((j:Int) < 7) = false:=by simp; omega
   simp only [e1,cond_false,e,if_false]) ((((7:Nat):Int) - 0).toNat + 1) (by decide)
 refine bind_step hl ?_
 have hv:validC c = (decide (c.1.getD 0 [] = []) && (List.range 7).all fun k=>rowsOk (c.1.getD (k + 1) [])):=rfl
 rw [hv]
 cases (List.range 7).all fun k=>rowsOk (c.1.getD (k + 1) []) with
 | true =>
  have e0:at_ (.sl tN) c.1 (0:Int) = c.1.getD 0 []:=row_at h.1 0 (by decide)
  show some (decide (((at_ (.sl tN) c.1 (0:Int)).length:Int) = 0),()) = some (decide (c.1.getD 0 [] = []) && true,())
  rw [e0]
  cases c.1.getD 0 [] with
  | nil=>rfl
  | cons x l =>
   have h1:¬ (((x :: l).length:Nat):Int) = 0:=by rw [List.length_cons]; omega
   have h2:¬ (x :: l:List Nm) = []:=by simp
   rw [zF h1,zF h2]
   rfl
 | false =>
  show some (false,()) = some (decide (c.1.getD 0 [] = []) && false,())
  rw [Bool.and_false]
theorem elim_step {A B R:Type} {f:A→R} {g:B→R} {x y:A ⊕ B} {r:R} (h:x = y) (h2:Sum.elim f g y = r):Sum.elim f g x = r:=by subst h; exact h2
theorem sm_app {n:Nat} (h:n≤1000000):decide (n≤appLim) = true:=zT (Nat.le_trans h (by decide))
section
variable {R:Type}
theorem rounds_find (T:Ty) (l:List T.den) (p:T.den→Bool) (yes:Nat→R) (no:R):∀ (m j:Nat),j + m = l.length →
  ((l.drop j).find? p = none∧rounds (fun j (_:Unit)=>if p (at_ T l (j:Int)) = true then (.inr (yes j):Unit ⊕ R) else .inl ()) (fun _=>no) m j () = no) ∨
  (∃ (i:Nat) (h:i < l.length),(l.drop j).find? p = some l[i]∧rounds (fun j (_:Unit)=>if p (at_ T l (j:Int)) = true then (.inr (yes j):Unit ⊕ R) else .inl ()) (fun _=>no) m j () = yes i)
 | 0,j,h=>.inl ⟨by rw [List.drop_of_length_le (by omega)]; rfl,rfl⟩
 | m + 1,j,h=>by
  have hj:j < l.length:=by omega
  rw [List.drop_eq_getElem_cons hj,List.find?_cons]
  simp only [rounds,atN T l j hj]
  cases e:p l[j] with
  | true=>exact .inr ⟨j,hj,by simp,by simp⟩
  | false =>
   simp only [Bool.false_eq_true,if_false]
   exact rounds_find T l p yes no m (j + 1) (by omega)
end
theorem lkp_some {l:List Nm} {i:Int} {n:Nm} (h:l.find? (fun n=>decide (n.1 = i)) = some n):lkp l i = (true,n.2.1):=by unfold lkp; rw [h]
theorem lkp_no {l:List Nm} {i:Int} (h:l.find? (fun n=>decide (n.1 = i)) = none):lkp l i = (false,[]):=by unfold lkp; rw [h]
theorem f25_eq (c:Ct) (h:smC c) (q:Nat) (hq:q < 8) (i:Int):f25 c (q:Int) i = some ((la c q i).2,(la c q i).1,()):=by
 unfold f25
 have hs:=row_sm h q
 have h1:=hs.1
 have hl:=loop_rounds (c.1.getD q []).length (fun _ _=>True) (fun j (_:Unit)=>if decide ((at_ tN (c.1.getD q []) (j:Int)).1 = i) = true then (.inr (.inr ((true,()),(),((at_ tN (c.1.getD q []) (j:Int)).2.1,()))):Unit ⊕ outDen f25_l2_outs) else .inl ()) (fun _=>.inl ((),(),())) (fun k j _=>f25_l2 (q:Int) i c.1 k j) (by
  intro k j _ hj _
  conv=>lhs; unfold f25_l2
  simp only [inRN,hq,decide_true,cond_true,row_at h.1 q hq,Int.ofNat_lt]
  by_cases e:j < (c.1.getD q []).length
  ·simp only [e,decide_true,cond_true,if_true,wS j (by omega)]
   by_cases e1:(at_ tN (c.1.getD q []) (j:Int)).1 = i
   ·have:=smR_at hs j e
    have e2:decide ((at_ tN (c.1.getD q []) (j:Int)).2.1.length≤appLim) = true:=sm_app this
    simp only [e1,decide_true,cond_true,e2,if_true]
   ·simp only [e1,decide_false,cond_false,Bool.false_eq_true,if_false]
  ·simp only [e,decide_false,cond_false,if_false]) (fun _ _ _ _ _ _=>trivial) (c.1.getD q []).length ((((at_ (.sl tN) c.1 (q:Int)).length:Int) - 0).toNat + 1) 0 () (by omega) (by omega) (by rw [row_at h.1 q hq]; omega) trivial
 refine bind_step hl ?_
 rcases rounds_find tN (c.1.getD q []) (fun n=>decide (n.1 = i)) (fun j=>(.inr ((true,()),(),((at_ tN (c.1.getD q []) (j:Int)).2.1,())):outDen f25_l2_outs)) (.inl ((),(),())) (c.1.getD q []).length 0 (by omega) with ⟨k1,k2⟩ | ⟨j,hj,k1,k2⟩
 ·refine elim_step k2 ?_
  have:la c q i = (false,[]):=lkp_no (by rw [Int.toNat_natCast]; exact k1)
  rw [this]
  rfl
 ·refine elim_step k2 ?_
  have:la c q i = (true,(c.1.getD q [])[j].2.1):=lkp_some (by rw [Int.toNat_natCast]; exact k1)
  rw [this,← atN tN _ j hj]
  rfl
theorem f43_eq (c:Ct) (h:smC c) (q:Nat) (hq:q < 8) (i:Int):f43 c [(q:Int),i] = some (((la c q i).1,((la c q i).2,())),()):=by
 unfold f43
 have hs:=row_sm h q
 have h1:=hs.1
 have e0:at_ yI [(q:Int),i] (0:Int) = (q:Int):=rfl
 have e1:at_ yI [(q:Int),i] (1:Int) = i:=rfl
 have ei:inR (0:Int) 2 = true:=by decide
 have ei1:inR (1:Int) 2 = true:=by decide
 simp only [e0,ei,cond_true,inRN,hq,decide_true,row_at h.1 q hq]
 have hl:=loop_rounds (c.1.getD q []).length (fun _ _=>True) (fun j (_:Unit)=>if decide ((at_ tN (c.1.getD q []) (j:Int)).1 = i) = true then (.inr (.inr (((j:Int),()),((),()),((c.1,()),([(q:Int),i],()),(false,()),()))):Unit ⊕ outDen f82_l2x_outs) else .inl ()) (fun _=>.inl ((),((),()),((c.1,()),([(q:Int),i],()),(false,()),()))) (fun k j _=>f82_l2x (c.1.getD q []) ((c.1.getD q []).length:Int) [(q:Int),i] c.1 false k j) (by
  intro k j _ hj _
  conv=>lhs; unfold f82_l2x
  by_cases e:j < (c.1.getD q []).length
  ·simp only [Int.ofNat_lt,inRN,e,decide_true,cond_true,if_true,wS j (by omega),ei1,e1]
   by_cases e2:(at_ tN (c.1.getD q []) (j:Int)).1 = i
   ·simp only [e2,decide_true,cond_true,if_true]
   ·simp only [e2,decide_false,cond_false,Bool.false_eq_true,if_false]
  ·simp only [Int.ofNat_lt,e,decide_false,cond_false,if_false]) (fun _ _ _ _ _ _=>trivial) (c.1.getD q []).length ((((c.1.getD q []).length:Int) - 0).toNat + 1) 0 () (by omega) (by omega) (by omega) trivial
 refine bind_step hl ?_
 rcases rounds_find tN (c.1.getD q []) (fun n=>decide (n.1 = i)) (fun j=>(.inr (((j:Int),()),((),()),((c.1,()),([(q:Int),i],()),(false,()),())):outDen f82_l2x_outs)) (.inl ((),((),()),((c.1,()),([(q:Int),i],()),(false,()),()))) (c.1.getD q []).length 0 (by omega) with ⟨k1,k2⟩ | ⟨j,hj,k1,k2⟩
 ·refine elim_step k2 ?_
  have:la c q i = (false,[]):=lkp_no (by rw [Int.toNat_natCast]; exact k1)
  rw [this]
  rfl
 ·refine elim_step k2 ?_
  have:la c q i = (true,(c.1.getD q [])[j].2.1):=lkp_some (by rw [Int.toNat_natCast]; exact k1)
  rw [this,← atN tN _ j hj]
  have e3:decide ((j:Int) ≥ 0) = true:=by simp
  simp only [Sum.elim_inr,e3,cond_true,ei,e0,inRN,hq,decide_true,row_at h.1 q hq,hj]
end Go.V.G
namespace Go.V.G
open Go.Proofs
open Go.V.K
theorem lkp_sm {l:List Nm} (h:smR l) (i:Int):(lkp l i).2.length≤1000000:=by
 cases e:l.find? (fun n=>decide (n.1 = i)) with
 | none=>rw [lkp_no e]; simp
 | some n=>rw [lkp_some e]; exact h.2 n (List.mem_of_find?_eq_some e)
theorem la_sm {c:Ct} (h:smC c) (k i:Int):(la c k i).2.length≤1000000:=lkp_sm (row_sm h _) i
theorem ids_fm {β:Type} (F:Int→Option β):(List.range' 0 24).flatMap (fun j=>(F ((j:Nat):Int)).toList) = ids.filterMap F:=by
 rw [flat_filter (fun j:Nat=>F (j:Int))]
 unfold ids
 rw [List.filterMap_map,List.range_eq_range']
 rfl
theorem keys_fm {β:Type} (F:Int × Int→Option β):(List.range' 1 7).flatMap (fun q=>ids.filterMap fun i=>F (((q:Nat):Int),i)) = keys.filterMap F:=by
 unfold keys kinds
 rw [List.filterMap_flatMap,List.flatMap_map]
 simp only [List.filterMap_map]
 rfl
theorem ids_len {β:Type} (F:Int→Option β):(ids.filterMap F).length≤24:=Nat.le_trans (List.length_filterMap_le _ _) (by decide)
theorem opt_len {β:Type} (o:Option β):o.toList.length≤1:=by cases o <;> simp
abbrev dF (A B:Int→Int→Lb) (k:Int × Int):Option Rl:=if A k.1 k.2 = B k.1 k.2 then none else some (mkR k (A k.1 k.2) (B k.1 k.2))
theorem f9_l8_eq (a b:Ct) (ha:smC a) (hb:smC b) (q:Nat) (hq:q < 8) (k:Nat) (hk:24 < k) (r:List Rl) (hr:r.length≤1000) :
  f9_l8 (q:Int) a.1 b.1 k 0 r = some (((q:Int),()),(),((a.1,()),(b.1,()),(),(),r++ids.filterMap (fun i=>dF (la a) (la b) ((q:Int),i)),())):=by
 have h:=app_loop 24 (fun j acc=>acc.length≤1000 + j) (fun j=>(dF (la a) (la b) ((q:Int),((j:Nat):Int))).toList) (fun r=>((((q:Int),()),(),((a.1,()),(b.1,()),(),(),r,())):outDen f9_l8_outs)) (f9_l8 (q:Int) a.1 b.1) (by
  intro k j acc hj hacc
  conv=>lhs; unfold f9_l8
  by_cases e:j < 24
  ·have e1:decide ((j:Int) < 24) = true:=by simp; omega
   have e3:f25 (a.1,()) (q:Int) (j:Int) = some ((la a q j).2,(la a q j).1,()):=f25_eq a ha q hq j
   have e4:f25 (b.1,()) (q:Int) (j:Int) = some ((la b q j).2,(la b q j).1,()):=f25_eq b hb q hq j
   simp only [e1,cond_true,e3,e4,Option.bind_some,f40_eq _ _ _ _ (la_sm ha q j),e,if_true,wS j (by omega)]
   by_cases e5:la a q j = la b q j
   ·simp [e5,dF]
    rfl
   ·have e6:((la a q j).1,(la a q j).2) ≠ ((la b q j).1,(la b q j).2):=e5
    have e7:decide (acc.length + 1≤appLim) = true:=by unfold appLim; simp; omega
    simp only [e6,decide_false,Bool.not_false,cond_true,List.length_singleton,e7,dF,e5,if_false,Option.toList_some]
    rfl
  ·have e1:decide ((j:Int) < 24) = false:=by simp; omega
   simp only [e1,cond_false]
   exact (if_neg e).symm) (fun j acc _ h=>by
    have:=opt_len (dF (la a) (la b) ((q:Int),((j:Nat):Int)))
    rw [List.length_append]
    omega) k 0 r (by omega) (by omega) (by omega)
 rw [ids_fm (fun i=>dF (la a) (la b) ((q:Int),i))] at h
 exact h
theorem f9_l5_eq (a b:Ct) (ha:smC a) (hb:smC b) (k:Nat) (hk:8≤k):f9_l5 k 1 a.1 b.1 [] = some ((),(),((),(),dif (la a) (la b),())):=by
 have h:=app_loop 8 (fun j acc=>acc.length≤24 * j) (fun q=>ids.filterMap (fun i=>dF (la a) (la b) (((q:Nat):Int),i))) (fun r=>(((),(),((),(),r,())):outDen f9_l5_outs)) (fun k j r=>f9_l5 k j a.1 b.1 r) (by
  intro k j acc hj hacc
  conv=>lhs; unfold f9_l5
  by_cases e:j < 8
  ·have e1:decide ((j:Int)≤7) = true:=by simp; omega
   simp only [e1,cond_true]
   refine Eq.trans (bind_step (f9_l8_eq a b ha hb j e (((24:Int) - 0).toNat + 1) (by decide) acc (by omega)) ?_) (if_pos e).symm
   show f9_l5 k (IntKind.wrap .i64 ((j:Int) + 1)) _ _ _ = _
   rw [wS j (by omega)]
  ·have e1:decide ((j:Int)≤7) = false:=by simp; omega
   simp only [e1,cond_false]
   exact (if_neg e).symm) (fun j acc _ h=>by
    have:=ids_len (fun i=>dF (la a) (la b) (((j:Nat):Int),i))
    rw [List.length_append]
    omega) k 1 [] (by omega) (by omega) (by simp)
 rw [keys_fm (dF (la a) (la b))] at h
 exact h
theorem f9_eq (a b:Ct) (ha:smC a) (hb:smC b):f9 a b = if validC a && validC b then some ((dif (la a) (la b),()),(0:Int),()) else some (([],()),(160:Int),()):=by
 unfold f9
 refine (bind_step (f39_eq a ha) ?_)
 cases h1:validC a with
 | false=>rfl
 | true =>
  simp only [Bool.not_true,cond_false,Bool.true_and]
  refine (bind_step (f39_eq b hb) ?_)
  cases h2:validC b with
  | false=>rfl
  | true =>
   simp only [Bool.not_true,cond_false,if_true]
   refine bind_step (f9_l5_eq a b ha hb _ (by decide)) rfl
theorem f45_eq (k i:Int) (h:Bool) (l:List Int) (h':Bool) (l':List Int) (hl:l.length≤1000000) (hl':l'.length≤1000000) :
  f45 [k,i] (h,(l,())) (h',(l',())) = some (mkR (k,i) (h,l) (h',l'),()):=by
 unfold f45 f54
 have e1:decide (l.length≤appLim) = true:=by unfold appLim; simp; omega
 have e2:decide (l'.length≤appLim) = true:=by unfold appLim; simp; omega
 simp only [e1,e2,cond_true,Option.bind_some]
 rfl
theorem f44_mk (h:Bool) (l:List Int) (h':Bool) (l':List Int) (hl:l.length≤1000000):f44 (h,(l,())) (h',(l',())) = some (decide ((h,l) = (h',l')),()):=f44_eq _ _ hl
theorem f41_l4_eq (a b:Ct) (ha:smC a) (hb:smC b) (z:Int) (q:Nat) (hq:q < 8) (k:Nat) (hk:24 < k) (r:List Rl) (hr:r.length≤1000) :
  f41_l4x (q:Int) z a.1 b.1 k 0 r = some (((q:Int),()),((z,()),()),((a.1,()),(b.1,()),(),(),r++ids.filterMap (fun i=>dF (la a) (la b) ((q:Int),i)),())):=by
 have h:=app_loop 24 (fun j acc=>acc.length≤1000 + j) (fun j=>(dF (la a) (la b) ((q:Int),((j:Nat):Int))).toList) (fun r=>((((q:Int),()),((z,()),()),((a.1,()),(b.1,()),(),(),r,())):outDen f41_l4x_outs)) (f41_l4x (q:Int) z a.1 b.1) (by
  intro k j acc hj hacc
  conv=>lhs; unfold f41_l4x
  by_cases e:j < 24
  ·have e1:decide ((j:Int) < 24) = true:=by simp; omega
   have e3:f43 (a.1,()) [(q:Int),(j:Int)] = some (((la a q j).1,((la a q j).2,())),()):=f43_eq a ha q hq j
   have e4:f43 (b.1,()) [(q:Int),(j:Int)] = some (((la b q j).1,((la b q j).2,())),()):=f43_eq b hb q hq j
   simp only [e1,cond_true,e3,e4,Option.bind_some,f44_mk _ _ _ _ (la_sm ha q j),e,if_true,wS j (by omega),f45_eq _ _ _ _ _ _ (la_sm ha q j) (la_sm hb q j)]
   by_cases e5:la a q j = la b q j
   ·simp [e5,dF]
    rfl
   ·have e6:((la a q j).1,(la a q j).2) ≠ ((la b q j).1,(la b q j).2):=e5
    have e7:decide (acc.length + 1≤appLim) = true:=by unfold appLim; simp; omega
    simp only [e6,decide_false,Bool.not_false,cond_true,List.length_singleton,e7,dF,e5,if_false,Option.toList_some]
    rfl
  ·have e1:decide ((j:Int) < 24) = false:=by simp; omega
   simp only [e1,cond_false]
   exact (if_neg e).symm) (fun j acc _ h=>by
    have:=opt_len (dF (la a) (la b) ((q:Int),((j:Nat):Int)))
    rw [List.length_append]
    omega) k 0 r (by omega) (by omega) (by omega)
 rw [ids_fm (fun i=>dF (la a) (la b) ((q:Int),i))] at h
 exact h
theorem f41_l1_eq (a b:Ct) (ha:smC a) (hb:smC b) (z:Int) (k:Nat) (hk:8≤k):f41_l1x k 1 z a.1 b.1 [] = some ((),((z,()),()),((),(),dif (la a) (la b),())):=by
 have h:=app_loop 8 (fun j acc=>acc.length≤24 * j) (fun q=>ids.filterMap (fun i=>dF (la a) (la b) (((q:Nat):Int),i))) (fun r=>(((),((z,()),()),((),(),r,())):outDen f41_l1x_outs)) (fun k j r=>f41_l1x k j z a.1 b.1 r) (by
  intro k j acc hj hacc
  conv=>lhs; unfold f41_l1x
  by_cases e:j < 8
  ·have e1:decide ((j:Int)≤7) = true:=by simp; omega
   simp only [e1,cond_true]
   refine Eq.trans (bind_step (f41_l4_eq a b ha hb z j e (((24:Int) - 0).toNat + 1) (by decide) acc (by omega)) ?_) (if_pos e).symm
   show f41_l1x k (IntKind.wrap .i64 ((j:Int) + 1)) _ _ _ _ = _
   rw [wS j (by omega)]
  ·have e1:decide ((j:Int)≤7) = false:=by simp; omega
   simp only [e1,cond_false]
   exact (if_neg e).symm) (fun j acc _ h=>by
    have:=ids_len (fun i=>dF (la a) (la b) (((j:Nat):Int),i))
    rw [List.length_append]
    omega) k 1 [] (by omega) (by omega) (by simp)
 rw [keys_fm (dF (la a) (la b))] at h
 exact h
theorem f12_eq (a b:Ct) (ha:smC a) (hb:smC b):f12 a b = if validC a && validC b then some ((dif (la a) (la b),()),(0:Int),()) else some (([],()),(160:Int),()):=by
 unfold f12
 refine (bind_step (f35_eq a ha) ?_)
 cases h1:validC a with
 | false=>rfl
 | true =>
  simp only [Bool.not_true,cond_false,Bool.true_and]
  refine (bind_step (f35_eq b hb) ?_)
  cases h2:validC b with
  | false=>rfl
  | true =>
   simp only [Bool.not_true,cond_false,if_true]
   refine bind_step (f41_l1_eq a b ha hb 0 _ (by decide)) rfl
end Go.V.G
namespace Go.V.G
open Go.Proofs
noncomputable section
def f15_l5_head:Ann:={ env:=[(2,cP 2),(3,cP 3),(4,cP 4),(6,cP 6),(7,YI)],bxs:=[(2,.var [.ty (.arr 8 (.sl yN))]),(3,.var [.ty (.sl yR)]),(4,.var [.ty (.arr 8 (.sl yN))]),(6,.var [.ty (.arr 8 (.sl yN))])] }
def f15_l5_outs:List (Ex × Ann):=[((.exit 0),{ env:=[(2,cP 2),(3,cP 3),(4,cP 4),(6,cP 6)],bxs:=[(2,.var [.ty (.arr 8 (.sl yN))]),(3,.var [.ty (.sl yR)]),(4,.var [.ty (.arr 8 (.sl yN))]),(6,.var [.ty (.arr 8 (.sl yN))])] })]
def f15_l5 (b2g0:(List (List Yn))) (b3g0:(List Yr)) (b4g0:(List (List Yn))):Nat→Int→(List (List Yn))→Option (outDen f15_l5_outs)
 | 0,_,_=>none
 | k + 1,t7,b6g0 =>
 bif (decide (t7≤(7:Int))) then
 bif (inR t7 8) then
 let v3:(List Yn):=(at_ (.sl yN) b2g0 t7)
 (f38 v3 (-1:Int) false []).bind fun y4 =>
 bif (inR t7 8) then f15_l5 b2g0 b3g0 b4g0 k (IntKind.wrap .i64 (t7 + 1)) (b6g0.set (Int.toNat t7) y4.1) else none
 else none
 else
 some ((),(),((b2g0,()),(b3g0,()),(b4g0,()),(b6g0,()),()))
def f15_l5_n (n:Nat) (x:f15_l5_head.den):=f15_l5 x.2.2.1.1 x.2.2.2.1.1 x.2.2.2.2.1.1 n x.1.1 x.2.2.2.2.2.1.1
def f15_l5_spec:LSpec:={ head:=f15_l5_head,outs:=f15_l5_outs,fn:=fun x=>f15_l5_n (((8:Int) - x.1.1).toNat + 1) x }
def f15_l9_head:Ann:={ env:=[(2,cP 2),(3,cP 3),(4,cP 4),(6,cP 6),(8,YI)],bxs:=[(2,.var [.ty (.arr 8 (.sl yN))]),(3,.var [.ty (.sl yR)]),(4,.var [.ty (.arr 8 (.sl yN))]),(6,.var [.ty (.arr 8 (.sl yN))])] }
def f15_l9_outs:List (Ex × Ann):=[((.exit 2),{ env:=[(4,cP 4),(6,cP 6)],bxs:=[(4,.var [.ty (.arr 8 (.sl yN))]),(6,.var [.ty (.arr 8 (.sl yN))])] }),(.ret,{ env:=[(4,cP 4),(5,YI)],bxs:=[(4,.var [.ty (.arr 8 (.sl yN))])] })]
def f15_l9 (b2g0:(List (List Yn))) (b3g0:(List Yr)) (b4g0:(List (List Yn))):Nat→Int→(List (List Yn))→Option (outDen f15_l9_outs)
 | 0,_,_=>none
 | k + 1,t8,b6g0 =>
 bif (decide (t8 < (b3g0.length:Int))) then
 bif (inR t8 b3g0.length) then
 let v10:Int:=(at_ yR b3g0 t8).1
 let v11:Int:=(at_ yR b3g0 t8).2.1
 (f25 (b2g0,()) v10 v11).bind fun y12 =>
 let v13:Bool:=(at_ yR b3g0 t8).2.2.1
 let v14:(List Int):=(at_ yR b3g0 t8).2.2.2.1
 (f40 y12.2.1 y12.1 v13 v14).bind fun y15 =>
 bif (!y15.1) then
 some (.inr (((160:Int),()),(),(((List.replicate 8 []),()),())))
 else
 let v16:Int:=(at_ yR b3g0 t8).1
 let v17:Int:=(at_ yR b3g0 t8).1
 bif (inR v17 8) then
 let v18:(List Yn):=(at_ (.sl yN) b6g0 v17)
 let v19:Int:=(at_ yR b3g0 t8).2.1
 let v20:Bool:=(at_ yR b3g0 t8).2.2.2.2.1
 let v21:(List Int):=(at_ yR b3g0 t8).2.2.2.2.2.1
 (f38 v18 v19 v20 v21).bind fun y22 =>
 bif (inR v16 8) then f15_l9 b2g0 b3g0 b4g0 k (IntKind.wrap .i64 (t8 + 1)) (b6g0.set (Int.toNat v16) y22.1) else none
 else none
 else none
 else
 some (.inl ((),(),((b4g0,()),(b6g0,()),())))
def f15_l9_n (n:Nat) (x:f15_l9_head.den):=f15_l9 x.2.2.1.1 x.2.2.2.1.1 x.2.2.2.2.1.1 n x.1.1 x.2.2.2.2.2.1.1
def f15_l9_spec:LSpec:={ head:=f15_l9_head,outs:=f15_l9_outs,fn:=fun x=>f15_l9_n (((x.2.2.2.1.1.length:Int) - x.1.1).toNat + 1) x }
def f15 (a0:Yc) (a1:((List Yr) × Unit)):Option (Yc × Int × Unit) :=
 (f39 a0).bind fun y1 =>
 bif (!y1.1) then
 some (((List.replicate 8 []),()),(160:Int),())
 else
 (f20 a1).bind fun y2 =>
 bif (!y2.1) then
 some (((List.replicate 8 []),()),(160:Int),())
 else
 (f15_l5 a0.1 a1.1 (List.replicate 8 []) (((8:Int) - (1:Int)).toNat + 1) (1:Int) (List.replicate 8 [])).bind fun o5 =>
 let u6:(List (List Yn)):=o5.2.2.1.1
 let u7:(List Yr):=o5.2.2.2.1.1
 let u8:(List (List Yn)):=o5.2.2.2.2.1.1
 let u9:(List (List Yn)):=o5.2.2.2.2.2.1.1
 (f15_l9 u6 u7 u8 (((u7.length:Int) - (0:Int)).toNat + 1) (0:Int) u9).bind fun o23 =>
 Sum.elim (fun o24 =>
 let u27:(List (List Yn)):=o24.2.2.2.1.1
 some ((u27,()),(0:Int),())) (fun o25 =>
 let u28:Int:=o25.1.1
 let u29:(List (List Yn)):=o25.2.2.1.1
 some ((u29,()),u28,())) o23
def f15_spec:PSpec:={ args:=[yC,(.pair (.sl yR) .unit)],res:=[yC,yI],fn:=fun x=>f15 x.1 x.2.1 }
noncomputable def f15_code:Code:=Tryz.f15.body.getD .skip
noncomputable def f15_env:Env0:={ C:=cfgF,P:=[(20,f20_spec),(25,f25_spec),(38,f38_spec),(39,f39_spec),(40,f40_spec)],L:=[(⟨12,0,15,5⟩,f15_l5_spec),(⟨12,0,15,9⟩,f15_l9_spec)],F:=[(15,Tryz.f15)] }
theorem f15_l5_ok:LoopOK f15_env 12 15 0 (loopAt f15_code 5) f15_l5_spec :=
 loopOK_of (by kernel_rfl) f15_l5_n (fun x o h=>⟨_,h⟩) (fun x=>by kernel_rfl) (fun n x=>by kernel_rfl)
theorem f15_l9_ok:LoopOK f15_env 12 15 0 (loopAt f15_code 9) f15_l9_spec :=
 loopOK_of (by kernel_rfl) f15_l9_n (fun x o h=>⟨_,h⟩) (fun x=>by kernel_rfl) (fun n x=>by kernel_rfl)
theorem f15_run:zR f15_env 15 Tryz.f15 f15_code f15_spec:=by intro x; kernel_rfl
theorem f15_enter:zQ 15:=zN Tryz.func15
theorem f15_envOK:zE f15_env:=zO cfgF_ok ⟨⟨f20_pure,f20_enter⟩,⟨f25_pure,f25_enter⟩,⟨f38_pure,f38_enter⟩,⟨f39_pure,f39_enter⟩,⟨f40_pure,f40_enter⟩,trivial⟩ trivial ⟨zK Tryz.func15,trivial⟩ ⟨⟨Tryz.f15,f15_code,rfl,rfl,f15_l5_ok⟩,⟨Tryz.f15,f15_code,rfl,rfl,f15_l9_ok⟩,trivial⟩
theorem f15_pure:zU 15 f15_spec:=zP f15_envOK Tryz.f15 f15_code f15_run
def f55_l4_head:Ann:={ env:=[(0,.ty (.sl yN)),(1,.ty (.sl yN)),(5,YI)] }
def f55_l4_outs:List (Ex × Ann):=[((.exit 0),{ env:=[] }),(.ret,{ env:=[(4,.ty .bool)] })]
def f55_l4 (t0:(List Yn)) (t1:(List Yn)):Nat→Int→Option (outDen f55_l4_outs)
 | 0,_=>none
 | k + 1,t5 =>
 bif (decide (t5 < (t0.length:Int))) then
 bif (inR t5 t0.length) then
 let v2:Int:=(at_ yN t0 t5).1
 bif (inR t5 t1.length) then
 let v3:Int:=(at_ yN t1 t5).1
 bif (decide (v2 ≠ v3)) then
 some (.inr ((false,()),(),()))
 else
 bif (inR t5 t0.length) then
 let v4:(List Int):=(at_ yN t0 t5).2.1
 bif (inR t5 t1.length) then
 let v5:(List Int):=(at_ yN t1 t5).2.1
 (f26 v4 v5).bind fun y6 =>
 bif (!y6.1) then
 some (.inr ((false,()),(),()))
 else
 f55_l4 t0 t1 k (IntKind.wrap .i64 (t5 + 1))
 else none
 else none
 else none
 else none
 else
 some (.inl ((),(),()))
def f55_l4_n (n:Nat) (x:f55_l4_head.den):=f55_l4 x.1.1 x.1.2.1 n x.1.2.2.1
def f55_l4_spec:LSpec:={ head:=f55_l4_head,outs:=f55_l4_outs,fn:=fun x=>f55_l4_n (((x.1.1.length:Int) - x.1.2.2.1).toNat + 1) x }
def f55 (a0:(List Yn)) (a1:(List Yn)):Option (Bool × Unit) :=
 let v1:Bool:=(decide ((a0.length:Int) ≠ (a1.length:Int)))
 bif v1 then
 some (false,())
 else
 (f55_l4 a0 a1 (((a0.length:Int) - (0:Int)).toNat + 1) (0:Int)).bind fun o7 =>
 Sum.elim (fun o8 =>
 some (true,())) (fun o9 =>
 let u10:Bool:=o9.1.1
 some (u10,())) o7
def f55_spec:PSpec:={ args:=[(.sl yN),(.sl yN)],res:=[.bool],fn:=fun x=>f55 x.1 x.2.1 }
noncomputable def f55_code:Code:=Tryz.f55.body.getD .skip
noncomputable def f55_env:Env0:={ C:=cfgF,P:=[(26,f26_spec)],L:=[(⟨12,0,55,4⟩,f55_l4_spec)],F:=[(55,Tryz.f55)] }
theorem f55_l4_ok:LoopOK f55_env 12 55 0 (loopAt f55_code 4) f55_l4_spec :=
 loopOK_of (by kernel_rfl) f55_l4_n (fun x o h=>⟨_,h⟩) (fun x=>by kernel_rfl) (fun n x=>by kernel_rfl)
theorem f55_run:zR f55_env 55 Tryz.f55 f55_code f55_spec:=by intro x; kernel_rfl
theorem f55_enter:zQ 55:=zN Tryz.func55
theorem f55_envOK:zE f55_env:=zO cfgF_ok ⟨⟨f26_pure,f26_enter⟩,trivial⟩ trivial ⟨zK Tryz.func55,trivial⟩ ⟨⟨Tryz.f55,f55_code,rfl,rfl,f55_l4_ok⟩,trivial⟩
theorem f55_pure:zU 55 f55_spec:=zP f55_envOK Tryz.f55 f55_code f55_run
def f16_l2_head:Ann:={ env:=[(2,cP 2),(3,cP 3),(5,YI)],bxs:=[(2,.var [.ty (.arr 8 (.sl yN))]),(3,.var [.ty (.arr 8 (.sl yN))])] }
def f16_l2_outs:List (Ex × Ann):=[((.exit 0),{ env:=[] }),(.ret,{ env:=[(4,.ty .bool)] })]
def f16_l2 (b2g0:(List (List Yn))) (b3g0:(List (List Yn))):Nat→Int→Option (outDen f16_l2_outs)
 | 0,_=>none
 | k + 1,t5 =>
 bif (decide (t5 < (8:Int))) then
 bif (inR t5 8) then
 let v1:(List Yn):=(at_ (.sl yN) b2g0 t5)
 bif (inR t5 8) then
 let v2:(List Yn):=(at_ (.sl yN) b3g0 t5)
 (f55 v1 v2).bind fun y3 =>
 bif (!y3.1) then
 some (.inr ((false,()),(),()))
 else
 f16_l2 b2g0 b3g0 k (IntKind.wrap .i64 (t5 + 1))
 else none
 else none
 else
 some (.inl ((),(),()))
def f16_l2_n (n:Nat) (x:f16_l2_head.den):=f16_l2 x.2.2.1.1 x.2.2.2.1.1 n x.1.1
def f16_l2_spec:LSpec:={ head:=f16_l2_head,outs:=f16_l2_outs,fn:=fun x=>f16_l2_n (((8:Int) - x.1.1).toNat + 1) x }
def f16 (a0:Yc) (a1:Yc):Option (Bool × Unit) :=
 (f16_l2 a0.1 a1.1 (((8:Int) - (0:Int)).toNat + 1) (0:Int)).bind fun o4 =>
 Sum.elim (fun o5 =>
 some (true,())) (fun o6 =>
 let u7:Bool:=o6.1.1
 some (u7,())) o4
def f16_spec:PSpec:={ args:=[yC,yC],res:=[.bool],fn:=fun x=>f16 x.1 x.2.1 }
noncomputable def f16_code:Code:=Tryz.f16.body.getD .skip
noncomputable def f16_env:Env0:={ C:=cfgF,P:=[(55,f55_spec)],L:=[(⟨12,0,16,2⟩,f16_l2_spec)],F:=[(16,Tryz.f16)] }
theorem f16_l2_ok:LoopOK f16_env 12 16 0 (loopAt f16_code 2) f16_l2_spec :=
 loopOK_of (by kernel_rfl) f16_l2_n (fun x o h=>⟨_,h⟩) (fun x=>by kernel_rfl) (fun n x=>by kernel_rfl)
theorem f16_run:zR f16_env 16 Tryz.f16 f16_code f16_spec:=by intro x; kernel_rfl
theorem f16_enter:zQ 16:=zN Tryz.func16
theorem f16_envOK:zE f16_env:=zO cfgF_ok ⟨⟨f55_pure,f55_enter⟩,trivial⟩ trivial ⟨zK Tryz.func16,trivial⟩ ⟨⟨Tryz.f16,f16_code,rfl,rfl,f16_l2_ok⟩,trivial⟩
theorem f16_pure:zU 16 f16_spec:=zP f16_envOK Tryz.f16 f16_code f16_run
def f17_l5_head:Ann:={ env:=[(2,cP 2),(4,cP 4),(12,.ty (.sl yR)),(13,YI),(14,YI)],bxs:=[(2,.var [.cst .nils]),(4,.var [.cst (.row 28 .whole)]),(28,.row yR false)] }
def f17_l5_outs:List (Ex × Ann):=[((.exit 0),{ env:=[(2,cP 2),(4,cP 4)],bxs:=[(2,.var [.cst .nils]),(4,.var [.cst (.row 28 .whole)]),(28,.row yR false)] })]
def f17_l5 (t12:(List Yr)) (t13:Int):Nat→Int→(List Yr)→Option (outDen f17_l5_outs)
 | 0,_,_=>none
 | k + 1,t14,r28 =>
 bif (decide (t14 < t13)) then
 bif (inR t14 t12.length) then
 (f50 (at_ yR t12 t14)).bind fun y2 =>
 (f53 (at_ yR t12 t14)).bind fun y3 =>
 (f52 (at_ yR t12 t14)).bind fun y4 =>
 (f45 y2.1 y3.1 y4.1).bind fun y5 =>
 bif (decide (r28.length + ([y5.1]:List Yr).length≤appLim)) then f17_l5 t12 t13 k (IntKind.wrap .i64 (t14 + 1)) (r28++([y5.1]:List Yr)) else none
 else none
 else
 some ((),(),((),(),r28,()))
def f17_l5_n (n:Nat) (x:f17_l5_head.den):=f17_l5 x.1.1 x.1.2.1 n x.1.2.2.1 x.2.2.2.2.1
def f17_l5_spec:LSpec:={ thaws:=[.cell 4 0 28 yR],head:=f17_l5_head,outs:=f17_l5_outs,fn:=fun x=>f17_l5_n ((x.1.2.1 - x.1.2.2.1).toNat + 1) x }
def f17 (a0:((List Yr) × Unit)):Option (((List Yr) × Unit) × Int × Unit) :=
 (f19 a0).bind fun y1 =>
 bif (!y1.1) then
 some (([],()),(160:Int),())
 else
 (f17_l5 a0.1 (a0.1.length:Int) (((a0.1.length:Int) - (0:Int)).toNat + 1) (0:Int) []).bind fun o6 =>
 let u7:(List Yr):=o6.2.2.2.2.1
 some ((u7,()),(0:Int),())
def f17_spec:PSpec:={ args:=[(.pair (.sl yR) .unit)],res:=[(.pair (.sl yR) .unit),yI],fn:=fun x=>f17 x.1 }
noncomputable def f17_code:Code:=Tryz.f17.body.getD .skip
noncomputable def f17_env:Env0:={ C:=cfgF,P:=[(19,f19_spec),(45,f45_spec),(50,f50_spec),(52,f52_spec),(53,f53_spec)],L:=[(⟨12,0,17,5⟩,f17_l5_spec)],F:=[(17,Tryz.f17)] }
theorem f17_l5_ok:LoopOK f17_env 12 17 0 (loopAt f17_code 5) f17_l5_spec :=
 loopOK_of (by kernel_rfl) f17_l5_n (fun x o h=>⟨_,h⟩) (fun x=>by kernel_rfl) (fun n x=>by kernel_rfl)
theorem f17_run:zR f17_env 17 Tryz.f17 f17_code f17_spec:=by intro x; kernel_rfl
theorem f17_enter:zQ 17:=zN Tryz.func17
theorem f17_envOK:zE f17_env:=zO cfgF_ok ⟨⟨f19_pure,f19_enter⟩,⟨f45_pure,f45_enter⟩,⟨f50_pure,f50_enter⟩,⟨f52_pure,f52_enter⟩,⟨f53_pure,f53_enter⟩,trivial⟩ trivial ⟨zK Tryz.func17,trivial⟩ ⟨⟨Tryz.f17,f17_code,rfl,rfl,f17_l5_ok⟩,trivial⟩
theorem f17_pure:zU 17 f17_spec:=zP f17_envOK Tryz.f17 f17_code f17_run
def f18_l5_head:Ann:={ env:=[(1,cP 1),(2,cP 2),(4,cP 4),(5,YI)],bxs:=[(1,.var [.ty (.sl yR)]),(2,.var [.cst .nils]),(4,.var [.cst (.row 43 .whole)]),(43,.row yR false)] }
def f18_l5_outs:List (Ex × Ann):=[((.exit 0),{ env:=[(2,cP 2),(4,cP 4)],bxs:=[(2,.var [.cst .nils]),(4,.var [.cst (.row 43 .whole)]),(43,.row yR false)] })]
def f18_l5 (b1g0:(List Yr)):Nat→Int→(List Yr)→Option (outDen f18_l5_outs)
 | 0,_,_=>none
 | k + 1,t5,r43 =>
 bif (decide (t5 < (b1g0.length:Int))) then
 bif (inR t5 b1g0.length) then
 let v2:Int:=(at_ yR b1g0 t5).1
 let v3:Int:=(at_ yR b1g0 t5).2.1
 let v4:Bool:=(at_ yR b1g0 t5).2.2.2.2.1
 let v5:(List Int):=(at_ yR b1g0 t5).2.2.2.2.2.1
 bif (decide (v5.length≤appLim)) then
 let v6:Bool:=(at_ yR b1g0 t5).2.2.1
 let v7:(List Int):=(at_ yR b1g0 t5).2.2.2.1
 bif (decide (v7.length≤appLim)) then bif (decide (r43.length + ([(v2,(v3,(v4,(v5,(v6,(v7,()))))))]:List Yr).length≤appLim)) then f18_l5 b1g0 k (IntKind.wrap .i64 (t5 + 1)) (r43++([(v2,(v3,(v4,(v5,(v6,(v7,()))))))]:List Yr)) else none else none
 else none
 else none
 else
 some ((),(),((),(),r43,()))
def f18_l5_n (n:Nat) (x:f18_l5_head.den):=f18_l5 x.2.2.1.1 n x.1.1 x.2.2.2.2.2.1
def f18_l5_spec:LSpec:={ thaws:=[.cell 4 0 43 yR],head:=f18_l5_head,outs:=f18_l5_outs,fn:=fun x=>f18_l5_n (((x.2.2.1.1.length:Int) - x.1.1).toNat + 1) x }
def f18 (a0:((List Yr) × Unit)):Option (((List Yr) × Unit) × Int × Unit) :=
 (f20 a0).bind fun y1 =>
 bif (!y1.1) then
 some (([],()),(160:Int),())
 else
 (f18_l5 a0.1 (((a0.1.length:Int) - (0:Int)).toNat + 1) (0:Int) []).bind fun o8 =>
 let u9:(List Yr):=o8.2.2.2.2.1
 some ((u9,()),(0:Int),())
def f18_spec:PSpec:={ args:=[(.pair (.sl yR) .unit)],res:=[(.pair (.sl yR) .unit),yI],fn:=fun x=>f18 x.1 }
noncomputable def f18_code:Code:=Tryz.f18.body.getD .skip
noncomputable def f18_env:Env0:={ C:=cfgF,P:=[(20,f20_spec)],L:=[(⟨12,0,18,5⟩,f18_l5_spec)],F:=[(18,Tryz.f18)] }
theorem f18_l5_ok:LoopOK f18_env 12 18 0 (loopAt f18_code 5) f18_l5_spec :=
 loopOK_of (by kernel_rfl) f18_l5_n (fun x o h=>⟨_,h⟩) (fun x=>by kernel_rfl) (fun n x=>by kernel_rfl)
theorem f18_run:zR f18_env 18 Tryz.f18 f18_code f18_spec:=by intro x; kernel_rfl
theorem f18_enter:zQ 18:=zN Tryz.func18
theorem f18_envOK:zE f18_env:=zO cfgF_ok ⟨⟨f20_pure,f20_enter⟩,trivial⟩ trivial ⟨zK Tryz.func18,trivial⟩ ⟨⟨Tryz.f18,f18_code,rfl,rfl,f18_l5_ok⟩,trivial⟩
theorem f18_pure:zU 18 f18_spec:=zP f18_envOK Tryz.f18 f18_code f18_run
def f21 (a0:((List Yr) × Unit)):Option (Int × Unit) :=
 some ((a0.1.length:Int),())
def f21_spec:PSpec:={ args:=[(.pair (.sl yR) .unit)],res:=[yI],fn:=fun x=>f21 x.1 }
noncomputable def f21_code:Code:=Tryz.f21.body.getD .skip
noncomputable def f21_env:Env0:={ C:=cfgF,P:=[],L:=[],F:=[(21,Tryz.f21)] }
theorem f21_run:zR f21_env 21 Tryz.f21 f21_code f21_spec:=by intro x; kernel_rfl
theorem f21_enter:zQ 21:=zN Tryz.func21
theorem f21_envOK:zE f21_env:=zO cfgF_ok trivial trivial ⟨zK Tryz.func21,trivial⟩ trivial
theorem f21_pure:zU 21 f21_spec:=zP f21_envOK Tryz.f21 f21_code f21_run
def f49_l3_head:Ann:={ env:=[(1,.cst (.fn 50 [])),(5,.cst (.mp 8)),(9,.ty (.sl yR)),(10,YI),(11,YI)],bxs:=[(8,.map (.arr 2 yI) yR)] }
def f49_l3_outs:List (Ex × Ann):=[((.exit 0),{ env:=[(5,.cst (.mp 8))],bxs:=[(8,.map (.arr 2 yI) yR)] })]
def f49_l3 (t9:(List Yr)) (t10:Int):Nat→Int→(List ((List Int) × Yr))→Option (outDen f49_l3_outs)
 | 0,_,_=>none
 | k + 1,t11,m8 =>
 bif (decide (t11 < t10)) then
 bif (inR t11 t9.length) then
 let w12:Option (outDen f49_l3_outs):=(
 (f50 (at_ yR t9 t11)).bind fun y1 =>
 f49_l3 t9 t10 k (IntKind.wrap .i64 (t11 + 1)) (mapSet (.arr 2 yI) yR m8 y1.1 (at_ yR t9 t11)))
 same (same w12 w12) w12
 else none
 else
 some ((),(),(m8,()))
def f49_l3_n (n:Nat) (x:f49_l3_head.den):=f49_l3 x.1.1 x.1.2.1 n x.1.2.2.1 x.2.2.1
def f49_l3_spec:LSpec:={ head:=f49_l3_head,outs:=f49_l3_outs,fn:=fun x=>f49_l3_n ((x.1.2.1 - x.1.2.2.1).toNat + 1) x }
def f49 (a0:(List Yr)):Option (List ((List Int) × Yr)) :=
 (f49_l3 a0 (a0.length:Int) (((a0.length:Int) - (0:Int)).toNat + 1) (0:Int) ([]:List ((List Int) × Yr))).bind fun o4 =>
 let u5:(List ((List Int) × Yr)):=o4.2.2.1
 some u5
def f49_spec:MSpec:={ args:=[(.sl yR)],arg:=50,K:=(.arr 2 yI),V:=yR,fn:=fun x=>f49 x.1 }
noncomputable def f49_code:Code:=Tryz.f49.body.getD .skip
noncomputable def f49_env:Env0:={ C:=cfgF,P:=[(50,f50_spec)],L:=[(⟨12,0,49,3⟩,f49_l3_spec)],F:=[(49,Tryz.f49)],I:=[],tot:=[(49,[5])],sym:=true }
theorem f49_l3_ok:LoopOK f49_env 12 49 0 (loopAt f49_code 3) f49_l3_spec :=
 loopOK_of (by kernel_rfl) f49_l3_n (fun x o h=>⟨_,h⟩) (fun x=>by kernel_rfl) (fun n x=>by kernel_rfl)
theorem f49_run (x:tysDen (f49_spec).args):runM f49_env 49 Tryz.f49 f49_code (tysAV (f49_spec).args x++[.fn 50 []]) (f49_spec).K (f49_spec).V = f49_spec.fn x:=by kernel_rfl
theorem f49_enter:zQ 49:=zN Tryz.func49
theorem f49_envOK:zE f49_env:=zO cfgF_ok ⟨⟨f50_pure,f50_enter⟩,trivial⟩ trivial ⟨zK Tryz.func49,trivial⟩ ⟨⟨Tryz.f49,f49_code,rfl,rfl,f49_l3_ok⟩,trivial⟩
theorem f49_map:MapOK Tryz.prog cfg 49 f49_spec:=map_of_run f49_envOK (fn:=Tryz.f49) (c:=f49_code) rfl rfl f49_spec (fun x _ h=>(f49_run x).trans h)
def f62_l2_head:Ann:={ env:=[(1,YI),(2,YI),(3,cP 3),(6,cP 6),(8,YI)],bxs:=[(3,.var [.ty (.sl yR)]),(6,.var [YI,YI,.ty .bool,.cst .nils,.ty .bool,.cst .nils])] }
def f62_l2_outs:List (Ex × Ann):=[((.exit 0),{ env:=[(6,cP 6)],bxs:=[(6,.var [YI,YI,.ty .bool,.cst .nils,.ty .bool,.cst .nils])] }),(.ret,{ env:=[(6,cP 6),(7,.ty .bool)],bxs:=[(6,.var [YI,YI,.ty .bool,.cst (.row 43 .whole),.ty .bool,.cst (.row 48 .whole)]),(43,.row yI true),(48,.row yI true)] })]
def f62_l2 (t1:Int) (t2:Int) (b3g0:(List Yr)) (b6g0:Int) (b6g1:Int) (b6g2:Bool) (b6g4:Bool):Nat→Int→Option (outDen f62_l2_outs)
 | 0,_=>none
 | k + 1,t8 =>
 bif (decide (t8 < (b3g0.length:Int))) then
 bif (inR t8 b3g0.length) then
 let v1:Int:=(at_ yR b3g0 t8).1
 bif (decide (v1 = t1)) then
 bif (inR t8 b3g0.length) then
 let v2:Int:=(at_ yR b3g0 t8).2.1
 bif (decide (v2 = t2)) then
 bif (inR t8 b3g0.length) then
 let v3:(List Int):=(at_ yR b3g0 t8).2.2.2.1
 bif (decide (v3.length≤appLim)) then
 let v4:(List Int):=(at_ yR b3g0 t8).2.2.2.2.2.1
 bif (decide (v4.length≤appLim)) then some (.inr ((true,()),(),(((at_ yR b3g0 t8).1,(at_ yR b3g0 t8).2.1,(at_ yR b3g0 t8).2.2.1,(at_ yR b3g0 t8).2.2.2.2.1,()),v3,v4,()))) else none
 else none
 else none
 else
 f62_l2 t1 t2 b3g0 b6g0 b6g1 b6g2 b6g4 k (IntKind.wrap .i64 (t8 + 1))
 else none
 else
 f62_l2 t1 t2 b3g0 b6g0 b6g1 b6g2 b6g4 k (IntKind.wrap .i64 (t8 + 1))
 else none
 else
 some (.inl ((),(),((b6g0,b6g1,b6g2,b6g4,()),())))
def f62_l2_n (n:Nat) (x:f62_l2_head.den):=f62_l2 x.1.1 x.1.2.1 x.2.2.1.1 x.2.2.2.1.1 x.2.2.2.1.2.1 x.2.2.2.1.2.2.1 x.2.2.2.1.2.2.2.1 n x.1.2.2.1
def f62_l2_spec:LSpec:={ head:=f62_l2_head,outs:=f62_l2_outs,fn:=fun x=>f62_l2_n (((x.2.2.1.1.length:Int) - x.1.2.2.1).toNat + 1) x }
def f62 (a0:((List Yr) × Unit)) (a1:Int) (a2:Int):Option (Yr × Bool × Unit) :=
 (f62_l2 a1 a2 a0.1 0 0 false false (((a0.1.length:Int) - (0:Int)).toNat + 1) (0:Int)).bind fun o5 =>
 Sum.elim (fun o6 =>
 some ((0,(0,(false,([],(false,([],())))))),false,())) (fun o7 =>
 let u12:Bool:=o7.1.1
 let u13:Int:=o7.2.2.1.1
 let u14:Int:=o7.2.2.1.2.1
 let u15:Bool:=o7.2.2.1.2.2.1
 let u16:Bool:=o7.2.2.1.2.2.2.1
 let u17:(List Int):=o7.2.2.2.1
 let u18:(List Int):=o7.2.2.2.2.1
 some ((u13,(u14,(u15,(u17,(u16,(u18,())))))),u12,())) o5
def f62_spec:PSpec:={ args:=[(.pair (.sl yR) .unit),yI,yI],res:=[yR,.bool],fn:=fun x=>f62 x.1 x.2.1 x.2.2.1 }
noncomputable def f62_code:Code:=Tryz.f62.body.getD .skip
noncomputable def f62_env:Env0:={ C:=cfgF,P:=[],L:=[(⟨12,0,62,2⟩,f62_l2_spec)],F:=[(62,Tryz.f62)] }
theorem f62_l2_ok:LoopOK f62_env 12 62 0 (loopAt f62_code 2) f62_l2_spec :=
 loopOK_of (by kernel_rfl) f62_l2_n (fun x o h=>⟨_,h⟩) (fun x=>by kernel_rfl) (fun n x=>by kernel_rfl)
theorem f62_run:zR f62_env 62 Tryz.f62 f62_code f62_spec:=by intro x; kernel_rfl
theorem f62_enter:zQ 62:=zN Tryz.func62
theorem f62_envOK:zE f62_env:=zO cfgF_ok trivial trivial ⟨zK Tryz.func62,trivial⟩ ⟨⟨Tryz.f62,f62_code,rfl,rfl,f62_l2_ok⟩,trivial⟩
theorem f62_pure:zU 62 f62_spec:=zP f62_envOK Tryz.f62 f62_code f62_run
def f23_l8_head:Ann:={ env:=[(2,cP 2),(3,cP 3),(4,cP 4),(6,cP 6),(7,YI),(8,YI)],bxs:=[(2,.var [.ty (.sl yR)]),(3,.var [.ty (.sl yR)]),(4,.var [.cst .nils]),(6,.var [.cst (.row 84 .whole)]),(84,.row yR false)] }
def f23_l8_outs:List (Ex × Ann):=[((.exit 2),{ env:=[(2,cP 2),(3,cP 3),(4,cP 4),(6,cP 6),(7,YI)],bxs:=[(2,.var [.ty (.sl yR)]),(3,.var [.ty (.sl yR)]),(4,.var [.cst .nils]),(6,.var [.cst (.row 84 .whole)]),(84,.row yR false)] }),(.ret,{ env:=[(4,cP 4),(5,YI)],bxs:=[(4,.var [.cst .nils])] })]
def f23_l8 (t7:Int) (b2g0:(List Yr)) (b3g0:(List Yr)):Nat→Int→(List Yr)→Option (outDen f23_l8_outs)
 | 0,_,_=>none
 | k + 1,t8,r84 =>
 bif (decide (t8 < (24:Int))) then
 (f62 (b2g0,()) t7 t8).bind fun y3 =>
 (f62 (b3g0,()) t7 t8).bind fun y4 =>
 bif y3.2.1 then
 bif y4.2.1 then
 (f40 y3.1.2.2.2.2.1 y3.1.2.2.2.2.2.1 y4.1.2.2.1 y4.1.2.2.2.1).bind fun y5 =>
 bif (!y5.1) then
 some (.inr (((160:Int),()),(),((),())))
 else
 (f40 y3.1.2.2.1 y3.1.2.2.2.1 y4.1.2.2.2.2.1 y4.1.2.2.2.2.2.1).bind fun y6 =>
 bif (!y6.1) then
 bif (decide (r84.length + ([(t7,(t8,(y3.1.2.2.1,(y3.1.2.2.2.1,y4.1.2.2.2.2))))]:List Yr).length≤appLim)) then f23_l8 t7 b2g0 b3g0 k (IntKind.wrap .i64 (t8 + 1)) (r84++([(t7,(t8,(y3.1.2.2.1,(y3.1.2.2.2.1,y4.1.2.2.2.2))))]:List Yr)) else none
 else
 f23_l8 t7 b2g0 b3g0 k (IntKind.wrap .i64 (t8 + 1)) r84
 else
 bif y3.2.1 then
 bif (decide (r84.length + ([y3.1]:List Yr).length≤appLim)) then f23_l8 t7 b2g0 b3g0 k (IntKind.wrap .i64 (t8 + 1)) (r84++([y3.1]:List Yr)) else none
 else
 bif y4.2.1 then
 bif (decide (r84.length + ([y4.1]:List Yr).length≤appLim)) then f23_l8 t7 b2g0 b3g0 k (IntKind.wrap .i64 (t8 + 1)) (r84++([y4.1]:List Yr)) else none
 else
 f23_l8 t7 b2g0 b3g0 k (IntKind.wrap .i64 (t8 + 1)) r84
 else
 bif y3.2.1 then
 bif (decide (r84.length + ([y3.1]:List Yr).length≤appLim)) then f23_l8 t7 b2g0 b3g0 k (IntKind.wrap .i64 (t8 + 1)) (r84++([y3.1]:List Yr)) else none
 else
 bif y4.2.1 then
 bif (decide (r84.length + ([y4.1]:List Yr).length≤appLim)) then f23_l8 t7 b2g0 b3g0 k (IntKind.wrap .i64 (t8 + 1)) (r84++([y4.1]:List Yr)) else none
 else
 f23_l8 t7 b2g0 b3g0 k (IntKind.wrap .i64 (t8 + 1)) r84
 else
 some (.inl ((t7,()),(),((b2g0,()),(b3g0,()),(),(),r84,())))
def f23_l8_n (n:Nat) (x:f23_l8_head.den):=f23_l8 x.1.1 x.2.2.1.1 x.2.2.2.1.1 n x.1.2.1 x.2.2.2.2.2.2.1
def f23_l8_spec:LSpec:={ head:=f23_l8_head,outs:=f23_l8_outs,fn:=fun x=>f23_l8_n (((24:Int) - x.1.2.1).toNat + 1) x }
def f23_l5_head:Ann:={ env:=[(2,cP 2),(3,cP 3),(4,cP 4),(6,cP 6),(7,YI)],bxs:=[(2,.var [.ty (.sl yR)]),(3,.var [.ty (.sl yR)]),(4,.var [.cst .nils]),(6,.var [.cst (.row 84 .whole)]),(84,.row yR false)] }
def f23_l5_outs:List (Ex × Ann):=[((.exit 0),{ env:=[(4,cP 4),(6,cP 6)],bxs:=[(4,.var [.cst .nils]),(6,.var [.cst (.row 84 .whole)]),(84,.row yR false)] }),(.ret,{ env:=[(4,cP 4),(5,YI)],bxs:=[(4,.var [.cst .nils])] })]
def f23_l5:Nat→Int→(List Yr)→(List Yr)→(List Yr)→Option (outDen f23_l5_outs)
 | 0,_,_,_,_=>none
 | k + 1,t7,b2g0,b3g0,r84 =>
 bif (decide (t7≤(7:Int))) then
 (f23_l8 t7 b2g0 b3g0 (((24:Int) - (0:Int)).toNat + 1) (0:Int) r84).bind fun o7 =>
 Sum.elim (fun o8 =>
 let u10:Int:=o8.1.1
 let u11:(List Yr):=o8.2.2.1.1
 let u12:(List Yr):=o8.2.2.2.1.1
 let u13:(List Yr):=o8.2.2.2.2.2.2.1
 f23_l5 k (IntKind.wrap .i64 (u10 + 1)) u11 u12 u13) (fun o9 =>
 let u14:Int:=o9.1.1
 some (.inr ((u14,()),(),((),())))) o7
 else
 some (.inl ((),(),((),(),r84,())))
def f23_l5_n (n:Nat) (x:f23_l5_head.den):=f23_l5 n x.1.1 x.2.2.1.1 x.2.2.2.1.1 x.2.2.2.2.2.2.1
def f23_l5_spec:LSpec:={ thaws:=[.cell 6 0 84 yR],head:=f23_l5_head,outs:=f23_l5_outs,fn:=fun x=>f23_l5_n (((8:Int) - x.1.1).toNat + 1) x }
def f23 (a0:((List Yr) × Unit)) (a1:((List Yr) × Unit)):Option (((List Yr) × Unit) × Int × Unit) :=
 (f20 a0).bind fun y1 =>
 bif (!y1.1) then
 some (([],()),(160:Int),())
 else
 (f20 a1).bind fun y2 =>
 bif (!y2.1) then
 some (([],()),(160:Int),())
 else
 (f23_l5 (((8:Int) - (1:Int)).toNat + 1) (1:Int) a0.1 a1.1 []).bind fun o15 =>
 Sum.elim (fun o16 =>
 let u18:(List Yr):=o16.2.2.2.2.1
 some ((u18,()),(0:Int),())) (fun o17 =>
 let u19:Int:=o17.1.1
 some (([],()),u19,())) o15
def f23_spec:PSpec:={ args:=[(.pair (.sl yR) .unit),(.pair (.sl yR) .unit)],res:=[(.pair (.sl yR) .unit),yI],fn:=fun x=>f23 x.1 x.2.1 }
noncomputable def f23_code:Code:=Tryz.f23.body.getD .skip
noncomputable def f23_env:Env0:={ C:=cfgF,P:=[(20,f20_spec),(40,f40_spec),(62,f62_spec)],L:=[(⟨12,0,23,8⟩,f23_l8_spec),(⟨12,0,23,5⟩,f23_l5_spec)],F:=[(23,Tryz.f23)] }
theorem f23_l8_ok:LoopOK f23_env 12 23 0 (loopAt f23_code 8) f23_l8_spec :=
 loopOK_of (by kernel_rfl) f23_l8_n (fun x o h=>⟨_,h⟩) (fun x=>by kernel_rfl) (fun n x=>by kernel_rfl)
theorem f23_l5_ok:LoopOK f23_env 12 23 0 (loopAt f23_code 5) f23_l5_spec :=
 loopOK_of (by kernel_rfl) f23_l5_n (fun x o h=>⟨_,h⟩) (fun x=>by kernel_rfl) (fun n x=>by kernel_rfl)
theorem f23_run:zR f23_env 23 Tryz.f23 f23_code f23_spec:=by intro x; kernel_rfl
theorem f23_enter:zQ 23:=zN Tryz.func23
theorem f23_envOK:zE f23_env:=zO cfgF_ok ⟨⟨f20_pure,f20_enter⟩,⟨f40_pure,f40_enter⟩,⟨f62_pure,f62_enter⟩,trivial⟩ trivial ⟨zK Tryz.func23,trivial⟩ ⟨⟨Tryz.f23,f23_code,rfl,rfl,f23_l8_ok⟩,⟨Tryz.f23,f23_code,rfl,rfl,f23_l5_ok⟩,trivial⟩
theorem f23_pure:zU 23 f23_spec:=zP f23_envOK Tryz.f23 f23_code f23_run
def f63_l4_b9000_head:Ann:={ env:=[(1,.ty (.sl yR)),(2,.cst (.fn 64 [])),(15,.ty (.sl yR)),(16,YI),(17,YI)],stk:=[[(4,.ty .bool)]] }
def f63_l4_b9000_outs:List (Ex × Ann):=[((.exit 0),{ env:=[],stk:=[[(4,.ty .bool)]] }),(.ret,{ env:=[(6,.ty .bool)],stk:=[[(4,.ty .bool)]] })]
def f63_l4_b9000 (t1:(List Yr)) (t15:(List Yr)) (t16:Int) (k0t4:Bool):Nat→Int→Option (outDen f63_l4_b9000_outs)
 | 0,_=>none
 | k + 1,t17 =>
 bif (decide (t17 < t16)) then
 bif (inR t17 t15.length) then
 bif (inR t17 t1.length) then
 let v2:Int:=(at_ yR t15 t17).1
 let v3:Int:=(at_ yR t1 t17).1
 bif (decide (v2 = v3)) then
 let v4:Int:=(at_ yR t15 t17).2.1
 let v5:Int:=(at_ yR t1 t17).2.1
 bif (decide (v4 = v5)) then
 (f52 (at_ yR t15 t17)).bind fun y6 =>
 (f52 (at_ yR t1 t17)).bind fun y7 =>
 (f44 y6.1 y7.1).bind fun y8 =>
 bif y8.1 then
 (f53 (at_ yR t15 t17)).bind fun y9 =>
 (f53 (at_ yR t1 t17)).bind fun y10 =>
 (f44 y9.1 y10.1).bind fun y11 =>
 bif (!y11.1) then
 some (.inr ((false,()),((k0t4,()),()),()))
 else
 f63_l4_b9000 t1 t15 t16 k0t4 k (IntKind.wrap .i64 (t17 + 1))
 else
 some (.inr ((false,()),((k0t4,()),()),()))
 else
 some (.inr ((false,()),((k0t4,()),()),()))
 else
 some (.inr ((false,()),((k0t4,()),()),()))
 else none
 else none
 else
 some (.inl ((),((k0t4,()),()),()))
def f63_l4_b9000_n (n:Nat) (x:f63_l4_b9000_head.den):=f63_l4_b9000 x.1.1 x.1.2.1 x.1.2.2.1 x.2.1.1.1 n x.1.2.2.2.1
def f63_l4_b9000_spec:LSpec:={ head:=f63_l4_b9000_head,outs:=f63_l4_b9000_outs,fn:=fun x=>f63_l4_b9000_n ((x.1.2.2.1 - x.1.2.2.2.1).toNat + 1) x }
def f24 (a0:((List Yr) × Unit)) (a1:((List Yr) × Unit)):Option (Bool × Unit) :=
 let v1:Bool:=(decide ((a0.1.length:Int) ≠ (a1.1.length:Int)))
 bif v1 then
 some (false,())
 else
 (f63_l4_b9000 a1.1 a0.1 (a0.1.length:Int) false (((a0.1.length:Int) - (0:Int)).toNat + 1) (0:Int)).bind fun o12 =>
 Sum.elim (fun o13 =>
 some (true,())) (fun o14 =>
 let u16:Bool:=o14.1.1
 some (u16,())) o12
def f24_spec:PSpec:={ args:=[(.pair (.sl yR) .unit),(.pair (.sl yR) .unit)],res:=[.bool],fn:=fun x=>f24 x.1 x.2.1 }
noncomputable def f24_code:Code:=Tryz.f24.body.getD .skip
noncomputable def f24_code_63:Code:=Tryz.f63.body.getD .skip
noncomputable def f24_env:Env0:={ C:=cfgF,P:=[(44,f44_spec),(52,f52_spec),(53,f53_spec)],L:=[(⟨11,9000,63,4⟩,f63_l4_b9000_spec)],F:=[(24,Tryz.f24),(63,Tryz.f63),(64,Tryz.f64)] }
theorem f63_l4_b9000_ok:LoopOK f24_env 11 63 9000 (loopAt f24_code_63 4) f63_l4_b9000_spec :=
 loopOK_of (by kernel_rfl) f63_l4_b9000_n (fun x o h=>⟨_,h⟩) (fun x=>by kernel_rfl) (fun n x=>by kernel_rfl)
theorem f24_run:zR f24_env 24 Tryz.f24 f24_code f24_spec:=by intro x; kernel_rfl
theorem f24_enter:zQ 24:=zN Tryz.func24
theorem f24_envOK:zE f24_env:=zO cfgF_ok ⟨⟨f44_pure,f44_enter⟩,⟨f52_pure,f52_enter⟩,⟨f53_pure,f53_enter⟩,trivial⟩ trivial ⟨zK Tryz.func24,zK Tryz.func63,zK Tryz.func64,trivial⟩ ⟨⟨Tryz.f63,f24_code_63,rfl,rfl,f63_l4_b9000_ok⟩,trivial⟩
theorem f24_pure:zU 24 f24_spec:=zP f24_envOK Tryz.f24 f24_code f24_run
def f34 :Option (ByteArray × Unit) :=
 bif (decide (0≤(32:Int)) && decide ((32:Int)≤(32:Int)) && decide ((32:Int)≤(appLim:Int))) then
 let v1:ByteArray:=(ofBytes (List.replicate (Int.toNat (32:Int)) (0:Int)))
 some (v1,())
 else none
def f34_spec:PSpec:={ args:=[],res:=[.str],fn:=fun x=>f34  }
noncomputable def f34_code:Code:=Tryz.f34.body.getD .skip
noncomputable def f34_env:Env0:={ C:=cfgF,P:=[],L:=[],F:=[(34,Tryz.f34)] }
theorem f34_run:zR f34_env 34 Tryz.f34 f34_code f34_spec:=by intro x; kernel_rfl
theorem f34_enter:zQ 34:=zN Tryz.func34
theorem f34_envOK:zE f34_env:=zO cfgF_ok trivial trivial ⟨zK Tryz.func34,trivial⟩ trivial
theorem f34_pure:zU 34 f34_spec:=zP f34_envOK Tryz.f34 f34_code f34_run
end
end Go.V.G
namespace Go.V.G
open Go.Proofs
open Go.V.K
def smRl (r:Rl):Prop:=(bf r).2.length≤1000000∧(af r).2.length≤1000000
def smD (d:List Rl):Prop:=d.length≤1000000∧∀ r∈d,smRl r
def okRb (r:Rl):Bool :=
 decide (r.1 ≥ 1) && (decide (r.1≤7) && (decide (r.2.1 ≥ 0) && (decide (r.2.1 < 24) && ((r.2.2.1 || decide ((r.2.2.2.1.length:Int) = 0)) && ((r.2.2.2.2.1 || decide ((r.2.2.2.2.2.1.length:Int) = 0)) &&
  (okLb r.2.2.2.1 && (okLb r.2.2.2.2.2.1 && !decide ((r.2.2.1,r.2.2.2.1) = (r.2.2.2.2.1,r.2.2.2.2.2.1)))))))))
theorem len0 {α:Type} {l:List α}:(l.length:Int) = 0 ↔ l = []:=by
 cases l with
 | nil=>simp
 | cons x l=>simp only [List.length_cons]; constructor <;> intro h <;> first | (cases h; done) | omega
theorem okRb_iff {r:Rl}:okRb r = true ↔ okR r:=by
 obtain ⟨k,i,h,o,h',n,u⟩:=r
 simp only [okRb,okR,okM,bf,af,kOf,mem_keys,Bool.and_eq_true,Bool.or_eq_true,Bool.not_eq_true',decide_eq_true_eq,decide_eq_false_iff_not,okLb_iff,len0,ge_iff_le]
 constructor
 ·rintro ⟨h1,h2,h3,h4,h5,h6,h7,h8,h9⟩
  refine ⟨⟨⟨h1,h2⟩,h3,h4⟩,⟨h7,fun e=>?_⟩,⟨h8,fun e=>?_⟩,h9⟩
  ·rcases h5 with h5 | h5
   ·rw [h5] at e; cases e
   ·exact h5
  ·rcases h6 with h6 | h6
   ·rw [h6] at e; cases e
   ·exact h6
 ·rintro ⟨⟨⟨h1,h2⟩,h3,h4⟩,⟨h7,h5⟩,⟨h8,h6⟩,h9⟩
  refine ⟨h1,h2,h3,h4,?_,?_,h7,h8,h9⟩
  ·cases h with
   | true=>exact .inl rfl
   | false=>exact .inr (h5 rfl)
  ·cases h' with
   | true=>exact .inl rfl
   | false=>exact .inr (h6 rfl)
theorem f56_eq (r:Rl) (hs:smRl r):f56 r = some (okRb r,()):=by
 obtain ⟨k,i,h,o,h',n,u⟩:=r
 obtain ⟨s1,s2⟩:=hs
 have e1:f65 o = some (okLb o,()):=f65_eq o s1
 have e2:f65 n = some (okLb n,()):=f65_eq n s2
 have e3:f44 (h,(o,())) (h',(n,())) = some (decide ((h,o) = (h',n)),()):=f44_mk h o h' n s1
 unfold f56 okRb f52 f53
 simp only [e1,e2,e3,Option.bind_some]
 generalize decide (k ≥ 1) = b1
 generalize decide (k≤7) = b2
 generalize decide (i ≥ 0) = b3
 generalize decide (i < 24) = b4
 generalize decide ((o.length:Int) = 0) = b5
 generalize decide ((n.length:Int) = 0) = b6
 generalize okLb o = b7
 generalize okLb n = b8
 generalize hb:decide ((h,o) = (h',n)) = b9
 clear hb e1 e2 e3 s1 s2
 cases b1 <;> cases b2 <;> cases b3 <;> cases b4 <;> cases h <;> cases h' <;> cases b5 <;> cases b6 <;> cases b7 <;> cases b8 <;> rfl
theorem f58_eq (r:Rl) (hs:smRl r):f58 r = some (okRb r,()):=by
 obtain ⟨k,i,h,o,h',n,u⟩:=r
 obtain ⟨s1,s2⟩:=hs
 have e1:f81 o = some (okLb o,()):=f81_eq o s1
 have e2:f81 n = some (okLb n,()):=f81_eq n s2
 have e3:f40 h o h' n = some (decide ((h,o) = (h',n)),()):=f40_eq h o h' n s1
 have g1:decide (k < 1) = !decide (k ≥ 1):=by by_cases e:k < 1 <;> simp [e] <;> omega
 have g2:decide (k > 7) = !decide (k≤7):=by by_cases e:k≤7 <;> simp [e] <;> omega
 have g3:decide (i < 0) = !decide (i ≥ 0):=by by_cases e:i < 0 <;> simp [e] <;> omega
 have g4:decide (i ≥ 24) = !decide (i < 24):=by by_cases e:i < 24 <;> simp [e] <;> omega
 have hx:h = false→h' = false→decide ((o.length:Int) = 0) = true→decide ((n.length:Int) = 0) = true→decide ((h,o) = (h',n)) = true:=by
  intro q1 q2 q3 q4
  rw [decide_eq_true_eq,len0] at q3 q4
  simp [q1,q2,q3,q4]
 unfold f58 okRb
 simp only [e1,e2,e3,Option.bind_some,g1,g2,g3,g4]
 generalize decide (k ≥ 1) = b1
 generalize decide (k≤7) = b2
 generalize decide (i ≥ 0) = b3
 generalize decide (i < 24) = b4
 generalize decide ((o.length:Int) = 0) = b5 at hx ⊢
 generalize decide ((n.length:Int) = 0) = b6 at hx ⊢
 generalize okLb o = b7
 generalize okLb n = b8
 generalize decide ((h,o) = (h',n)) = b9 at hx ⊢
 clear e1 e2 e3 s1 s2 g1 g2 g3 g4
 cases b1 <;> cases b2 <;> cases b3 <;> cases b4 <;> cases h <;> cases h' <;> cases b5 <;> cases b6 <;> cases b7 <;> cases b8 <;> first | rfl | (have:=hx rfl rfl rfl rfl; subst this; rfl)
def ltb (a b:Rl):Bool:=decide (a.1 < b.1) || (decide (a.1 = b.1) && decide (a.2.1 < b.2.1))
theorem ltb_iff {a b:Rl}:ltb a b = true ↔ lt2 (kOf a) (kOf b):=by
 unfold ltb lt2 kOf
 simp
def dOk (d:List Rl) (j:Nat):Bool:=okRb (at_ tR d (j:Int)) && (decide (j = 0) || ltb (at_ tR d ((j - 1:Nat):Int)) (at_ tR d (j:Int)))
def validD (d:List Rl):Bool:=(List.range d.length).all (dOk d)
theorem asc_adj2 {d:List Rl} (h:∀ j (h:j < d.length),0 < j→lt2 (kOf (d[j - 1]'(by omega))) (kOf d[j])):d.Pairwise (fun a b=>lt2 (kOf a) (kOf b)):=by
 rw [List.pairwise_iff_getElem]
 intro i j hi hj hij
 induction j with
 | zero=>omega
 | succ j ih =>
  have h1:=h (j + 1) hj (by omega)
  by_cases e:i = j
  ·subst e; exact h1
  ·exact lt2_tr _ _ _ (ih (by omega) (by omega)) h1
theorem validD_iff {d:List Rl}:validD d = true ↔ okD d:=by
 unfold validD okD
 rw [List.all_eq_true]
 constructor
 ·intro h
  have h':∀ j (hj:j < d.length),dOk d j = true:=fun j hj=>h j (List.mem_range.2 hj)
  constructor
  ·intro r hr
   obtain ⟨j,hj,rfl⟩:=List.mem_iff_getElem.1 hr
   have:=h' j hj
   rw [dOk,Bool.and_eq_true,atN tR d j hj] at this
   exact okRb_iff.1 this.1
  ·refine asc_adj2 fun j hj h0=>?_
   have:=h' j hj
   rw [dOk,Bool.and_eq_true,Bool.or_eq_true,atN tR d j hj,atN tR d (j - 1) (by omega),decide_eq_true_eq] at this
   rcases this.2 with h1 | h1
   ·omega
   ·exact ltb_iff.1 h1
 ·rintro ⟨h1,h2⟩ j hj
  have hj:=List.mem_range.1 hj
  rw [dOk,Bool.and_eq_true,Bool.or_eq_true,atN tR d j hj,decide_eq_true_eq]
  refine ⟨okRb_iff.2 (h1 _ (List.getElem_mem hj)),?_⟩
  by_cases h0:j = 0
  ·exact .inl h0
  ·rw [atN tR d (j - 1) (by omega)]
   exact .inr (ltb_iff.2 (List.pairwise_iff_getElem.1 h2 (j - 1) j (by omega) hj (by omega)))
theorem smD_at {d:List Rl} (h:smD d) (j:Nat) (hj:j < d.length):smRl (at_ tR d (j:Int)):=by
 rw [atN tR d j hj]
 exact h.2 _ (List.getElem_mem hj)
theorem f59_eq (a b:Rl):f59 a b = some (ltb a b,()):=by
 unfold f59 ltb
 by_cases e1:a.1 < b.1
 ·simp [e1]
 ·by_cases e2:a.1 = b.1
  ·simp [e1,e2]
  ·simp [e1,e2]
theorem f20_eq (d:List Rl) (h:smD d):f20 (d,()) = some (validD d,()):=by
 unfold f20
 have hl:=all_loop d.length (dOk d) (f20_l2 d) (.inl ((),(),())) (.inr ((false,()),(),())) (by
  intro k j hj
  conv=>lhs; unfold f20_l2
  have h1:=h.1
  by_cases e:j < d.length
  ·simp only [Int.ofNat_lt,inRN,e,decide_true,cond_true,f58_eq _ (smD_at h j e),Option.bind_some,wS j (by omega)]
   refine Eq.trans ?_ (if_pos trivial).symm
   unfold dOk
   cases okRb (at_ tR d (j:Int)) with
   | false=>rfl
   | true =>
    simp only [Bool.not_true,cond_false,Bool.true_and]
    by_cases e3:j = 0
    ·subst e3
     rfl
    ·have e4:decide ((j:Int) > 0) = true:=by simp; omega
     simp only [e4,cond_true,wP j (by omega) (by omega),inRN,show j - 1 < d.length by omega,decide_true,f59_eq,Option.bind_some,e3,decide_false,Bool.false_or]
     cases ltb (at_ tR d ((j - 1:Nat):Int)) (at_ tR d (j:Int)) <;> rfl
  ·simp only [Int.ofNat_lt,e,decide_false,cond_false]
   exact (if_neg not_false).symm) (((d.length:Int) - 0).toNat + 1) (by omega)
 refine bind_step hl ?_
 show Sum.elim _ _ (if validD d = true then _ else _) = _
 cases validD d <;> rfl
theorem inv_sm {d:List Rl} (h:smD d):smD (d.map inv):=by
 refine ⟨by rw [List.length_map]; exact h.1,fun r hr=>?_⟩
 obtain ⟨x,hx,rfl⟩:=List.mem_map.1 hr
 exact ⟨(h.2 x hx).2,(h.2 x hx).1⟩
theorem flat_one {α β:Type} (g:α→β):∀ (l:List α),l.flatMap (fun x=>[g x]) = l.map g
 | []=>rfl
 | x :: l=>by rw [List.flatMap_cons,flat_one g l]; rfl
theorem map_flat {α β:Type} (T:Ty) (l:List T.den) (f:T.den→β):(List.range' 0 l.length).flatMap (fun j:Nat=>[f (at_ T l (j:Int))]) = l.map f:=by
 rw [← List.range_eq_range']
 rw [flat_one (fun j:Nat=>f (at_ T l (j:Int)))]
 apply List.ext_getElem
 ·simp
 ·intro i h1 h2
  simp only [List.length_map] at h2
  simp only [List.getElem_map,List.getElem_range,atN T l i h2]
theorem f18_eq (d:List Rl) (h:smD d):f18 (d,()) = if validD d then some ((d.map inv,()),(0:Int),()) else some (([],()),(160:Int),()):=by
 unfold f18
 refine bind_step (f20_eq d h) ?_
 cases validD d with
 | false=>rfl
 | true =>
  simp only [Bool.not_true,cond_false,if_true]
  have hl:=app_loop d.length (fun j acc=>acc.length = j) (fun j=>[inv (at_ tR d (j:Int))]) (fun r=>(((),(),((),(),r,())):outDen f18_l5_outs)) (f18_l5 d) (by
   intro k j acc hj hacc
   conv=>lhs; unfold f18_l5
   have h1:=h.1
   by_cases e:j < d.length
   ·have hs:=smD_at h j e
    have ea:decide (acc.length + 1≤appLim) = true:=sm_app (by omega)
    simp only [Int.ofNat_lt,inRN,e,decide_true,cond_true,wS j (by omega),List.length_singleton,ea]
    refine Eq.trans ?_ (if_pos trivial).symm
    have q1:decide ((at_ tR d (j:Int)).2.2.2.2.2.1.length≤appLim) = true:=sm_app hs.2
    have q2:decide ((at_ tR d (j:Int)).2.2.2.1.length≤appLim) = true:=sm_app hs.1
    simp only [q1,q2,cond_true]
    rfl
   ·simp only [Int.ofNat_lt,e,decide_false,cond_false]
    exact (if_neg not_false).symm) (fun j acc _ h=>by rw [List.length_append,h]; rfl) (((d.length:Int) - 0).toNat + 1) 0 [] (by omega) (by omega) rfl
  refine bind_step hl ?_
  have e:[]++(List.range' 0 (d.length - 0)).flatMap (fun j:Nat=>[inv (at_ tR d (j:Int))]) = d.map inv:=map_flat (α:=Rl) tR d inv
  show some ((([]++(List.range' 0 (d.length - 0)).flatMap (fun j:Nat=>[inv (at_ tR d (j:Int))]):List Rl),()),(0:Int),()) = _
  rw [e]
end Go.V.G
namespace Go.V.G
open Go.Proofs
noncomputable section
def f78_l4x_head:Ann:={ env:=[(1,.ty (.sl yN)),(2,.cst (.fn 79 [])),(15,.ty (.sl yN)),(16,YI),(17,YI)],stk:=[[(3,cP 3),(8,.ty (.arr 8 (.sl yN))),(9,YI)]],bxs:=[(3,.var [.ty (.arr 8 (.sl yN))])] }
def f78_l4x_outs:List (Ex × Ann):=[((.exit 0),{ env:=[],stk:=[[(3,cP 3),(8,.ty (.arr 8 (.sl yN))),(9,YI)]],bxs:=[(3,.var [.ty (.arr 8 (.sl yN))])] }),(.ret,{ env:=[(6,.ty .bool)],stk:=[[(3,cP 3),(8,.ty (.arr 8 (.sl yN))),(9,YI)]],bxs:=[(3,.var [.ty (.arr 8 (.sl yN))])] })]
def f78_l4x (t1:(List Yn)) (t15:(List Yn)) (t16:Int) (k0t8:(List (List Yn))) (k0t9:Int) (b3g0:(List (List Yn))):Nat→Int→Option (outDen f78_l4x_outs)
 | 0,_=>none
 | k + 1,t17 =>
 bif (decide (t17 < t16)) then
 bif (inR t17 t15.length) then
 bif (inR t17 t1.length) then
 let v4:Int:=(at_ yN t15 t17).1
 let v5:Int:=(at_ yN t1 t17).1
 bif (decide (v4 = v5)) then
 let v6:(List Int):=(at_ yN t15 t17).2.1
 let v7:(List Int):=(at_ yN t1 t17).2.1
 (f80 v6 v7).bind fun y8 =>
 bif (!y8.1) then
 some (.inr ((false,()),((k0t8,k0t9,()),()),((b3g0,()),())))
 else
 f78_l4x t1 t15 t16 k0t8 k0t9 b3g0 k (IntKind.wrap .i64 (t17 + 1))
 else
 some (.inr ((false,()),((k0t8,k0t9,()),()),((b3g0,()),())))
 else none
 else none
 else
 some (.inl ((),((k0t8,k0t9,()),()),((b3g0,()),())))
def f78_l4x_n (n:Nat) (x:f78_l4x_head.den):=f78_l4x x.1.1 x.1.2.1 x.1.2.2.1 x.2.1.1.1 x.2.1.1.2.1 x.2.2.1.1 n x.1.2.2.2.1
def f78_l4x_spec:LSpec:={ head:=f78_l4x_head,outs:=f78_l4x_outs,fn:=fun x=>f78_l4x_n ((x.1.2.2.1 - x.1.2.2.2.1).toNat + 1) x }
def f36_l2_head:Ann:={ env:=[(3,cP 3),(8,.ty (.arr 8 (.sl yN))),(9,YI)],bxs:=[(3,.var [.ty (.arr 8 (.sl yN))])] }
def f36_l2_outs:List (Ex × Ann):=[((.exit 0),{ env:=[] }),(.ret,{ env:=[(4,.ty .bool)] })]
def f36_l2:Nat→(List (List Yn))→Int→(List (List Yn))→Option (outDen f36_l2_outs)
 | 0,_,_,_=>none
 | k + 1,t8,t9,b3g0 =>
 bif (decide (t9 < (8:Int))) then
 bif (inR t9 8) then
 let v1:(List Yn):=(at_ (.sl yN) t8 t9)
 bif (inR t9 8) then
 let v2:(List Yn):=(at_ (.sl yN) b3g0 t9)
 let v3:Bool:=(decide ((v1.length:Int) ≠ (v2.length:Int)))
 bif v3 then
 some (.inr ((false,()),(),()))
 else
 (f78_l4x v2 v1 (v1.length:Int) t8 t9 b3g0 (((v1.length:Int) - (0:Int)).toNat + 1) (0:Int)).bind fun o9 =>
 Sum.elim (fun o10 =>
 let u12:(List (List Yn)):=o10.2.1.1.1
 let u13:Int:=o10.2.1.1.2.1
 let u14:(List (List Yn)):=o10.2.2.1.1
 f36_l2 k u12 (IntKind.wrap .i64 (u13 + 1)) u14) (fun o11 =>
 let u15:Bool:=o11.1.1
 let u16:(List (List Yn)):=o11.2.1.1.1
 let u17:Int:=o11.2.1.1.2.1
 let u18:(List (List Yn)):=o11.2.2.1.1
 bif (!u15) then
 some (.inr ((false,()),(),()))
 else
 f36_l2 k u16 (IntKind.wrap .i64 (u17 + 1)) u18) o9
 else none
 else none
 else
 some (.inl ((),(),()))
def f36_l2_n (n:Nat) (x:f36_l2_head.den):=f36_l2 n x.1.1 x.1.2.1 x.2.2.1.1
def f36_l2_spec:LSpec:={ head:=f36_l2_head,outs:=f36_l2_outs,fn:=fun x=>f36_l2_n (((8:Int) - x.1.2.1).toNat + 1) x }
def f36 (a0:Yc) (a1:Yc):Option (Bool × Unit) :=
 (f36_l2 (((8:Int) - (0:Int)).toNat + 1) a0.1 (0:Int) a1.1).bind fun o19 =>
 Sum.elim (fun o20 =>
 some (true,())) (fun o21 =>
 let u22:Bool:=o21.1.1
 some (u22,())) o19
def f36_spec:PSpec:={ args:=[yC,yC],res:=[.bool],fn:=fun x=>f36 x.1 x.2.1 }
noncomputable def f36_code:Code:=Tryz.f36.body.getD .skip
noncomputable def f36_code_78:Code:=Tryz.f78.body.getD .skip
noncomputable def f36_env:Env0:={ C:=cfgF,P:=[(80,f80_spec)],L:=[(⟨11,18000,78,4⟩,f78_l4x_spec),(⟨12,0,36,2⟩,f36_l2_spec)],F:=[(36,Tryz.f36),(78,Tryz.f78),(79,Tryz.f79)] }
theorem f78_l4x_ok:LoopOK f36_env 11 78 18000 (loopAt f36_code_78 4) f78_l4x_spec :=
 loopOK_of (by kernel_rfl) f78_l4x_n (fun x o h=>⟨_,h⟩) (fun x=>by kernel_rfl) (fun n x=>by kernel_rfl)
theorem f36_l2_ok:LoopOK f36_env 12 36 0 (loopAt f36_code 2) f36_l2_spec :=
 loopOK_of (by kernel_rfl) f36_l2_n (fun x o h=>⟨_,h⟩) (fun x=>by kernel_rfl) (fun n x=>by kernel_rfl)
theorem f36_run:zR f36_env 36 Tryz.f36 f36_code f36_spec:=by intro x; kernel_rfl
theorem f36_enter:zQ 36:=zN Tryz.func36
theorem f36_envOK:zE f36_env:=zO cfgF_ok ⟨⟨f80_pure,f80_enter⟩,trivial⟩ trivial ⟨zK Tryz.func36,zK Tryz.func78,zK Tryz.func79,trivial⟩ ⟨⟨Tryz.f78,f36_code_78,rfl,rfl,f78_l4x_ok⟩,⟨Tryz.f36,f36_code,rfl,rfl,f36_l2_ok⟩,trivial⟩
theorem f36_pure:zU 36 f36_spec:=zP f36_envOK Tryz.f36 f36_code f36_run
end
end Go.V.G
namespace Go.V.G
open Go.Proofs
noncomputable section
def f49_l3x_head:Ann:={ env:=[(1,.cst (.fn 50 [])),(5,.cst (.mp 17008)),(9,.ty (.sl yR)),(10,YI),(11,YI)],stk:=[[(2,cP 2),(4,cP 4),(5,cP 5)],[(0,.cst (.tup [(.fn 47 []),(.ptr 5 0 [])]))],[(0,.cst (.tup [(.fn 46 [(.ptr 5 0 []),(.ptr 4 0 [])])]))]],bxs:=[(17008,.map (.arr 2 yI) yR),(2,.var [.ty (.arr 8 (.sl yN))]),(4,.var [.cst .nils,.cst .nils,.cst .nils,.cst .nils,.cst .nils,.cst .nils,.cst .nils,.cst .nils]),(5,.var [YI])] }
def f49_l3x_outs:List (Ex × Ann):=[((.exit 0),{ env:=[(5,.cst (.mp 17008))],stk:=[[(2,cP 2),(4,cP 4),(5,cP 5)],[(0,.cst (.tup [(.fn 47 []),(.ptr 5 0 [])]))],[(0,.cst (.tup [(.fn 46 [(.ptr 5 0 []),(.ptr 4 0 [])])]))]],bxs:=[(17008,.map (.arr 2 yI) yR),(2,.var [.ty (.arr 8 (.sl yN))]),(4,.var [.cst .nils,.cst .nils,.cst .nils,.cst .nils,.cst .nils,.cst .nils,.cst .nils,.cst .nils]),(5,.var [YI])] })]
def f49_l3x (t9:(List Yr)) (t10:Int) (b2g0:(List (List Yn))) (b5g0:Int):Nat→Int→(List ((List Int) × Yr))→Option (outDen f49_l3x_outs)
 | 0,_,_=>none
 | k + 1,t11,m17008 =>
 bif (decide (t11 < t10)) then
 bif (inR t11 t9.length) then
 let w4:Option (outDen f49_l3x_outs):=(
 (f50 (at_ yR t9 t11)).bind fun y3 =>
 f49_l3x t9 t10 b2g0 b5g0 k (IntKind.wrap .i64 (t11 + 1)) (mapSet (.arr 2 yI) yR m17008 y3.1 (at_ yR t9 t11)))
 same (same w4 w4) w4
 else none
 else
 some ((),((),(),(),()),(m17008,(b2g0,()),(),(b5g0,()),()))
def f49_l3x_n (n:Nat) (x:f49_l3x_head.den):=f49_l3x x.1.1 x.1.2.1 x.2.2.2.1.1 x.2.2.2.2.2.1.1 n x.1.2.2.1 x.2.2.1
def f49_l3x_spec:LSpec:={ head:=f49_l3x_head,outs:=f49_l3x_outs,fn:=fun x=>f49_l3x_n ((x.1.2.1 - x.1.2.2.1).toNat + 1) x }
def f41_l4b_head:Ann:={ env:=[(0,.cst (.fn 51 [(.ptr 2 0 []),(.ptr 6 0 []),(.ptr 4 0 [])])),(2,.cst (.val yI (1:Int))),(8,YI)],stk:=[[(4,cP 4),(5,cP 5)],[(0,.cst (.tup [(.fn 47 []),(.ptr 5 0 [])]))],[(0,.cst (.tup [(.fn 46 [(.ptr 5 0 []),(.ptr 4 0 [])])]))]],bxs:=[(2,.var [.ty (.arr 8 (.sl yN))]),(6,.var [.cst (.mp 17008)]),(4,.var [.cst .nils,.cst (.row 19999009015041 .whole),.cst .nils,.cst .nils,.cst .nils,.cst .nils,.cst .nils,.cst .nils]),(5,.var [YI]),(17008,.map (.arr 2 yI) yR),(19999009015041,.row yN false)] }
def f41_l4b_outs:List (Ex × Ann):=[((.exit 2),{ env:=[(0,.cst (.fn 51 [(.ptr 2 0 []),(.ptr 6 0 []),(.ptr 4 0 [])])),(2,.cst (.val yI (1:Int)))],stk:=[[(4,cP 4),(5,cP 5)],[(0,.cst (.tup [(.fn 47 []),(.ptr 5 0 [])]))],[(0,.cst (.tup [(.fn 46 [(.ptr 5 0 []),(.ptr 4 0 [])])]))]],bxs:=[(2,.var [.ty (.arr 8 (.sl yN))]),(6,.var [.cst (.mp 17008)]),(4,.var [.cst .nils,.cst (.row 19999009015041 .whole),.cst .nils,.cst .nils,.cst .nils,.cst .nils,.cst .nils,.cst .nils]),(5,.var [YI]),(17008,.map (.arr 2 yI) yR),(19999009015041,.row yN false)] }),((.pan ⟨130,.emp⟩),{ env:=[],stk:=[[(4,cP 4),(5,cP 5)],[(0,.cst (.tup [(.fn 47 []),(.ptr 5 0 [])]))],[(0,.cst (.tup [(.fn 46 [(.ptr 5 0 []),(.ptr 4 0 [])])]))]],bxs:=[(4,.var [.cst .nils,.cst (.row 19999009015041 .whole),.cst .nils,.cst .nils,.cst .nils,.cst .nils,.cst .nils,.cst .nils]),(5,.var [YI]),(19999009015041,.row yN false)] })]
def f41_l4b (b2g0:(List (List Yn))) (b5g0:Int) (m17008:(List ((List Int) × Yr))):Nat→Int→(List Yn)→Option (outDen f41_l4b_outs)
 | 0,_,_=>none
 | k + 1,t8,r19999009015041 =>
 bif (decide (t8 < (24:Int))) then
 (f43 (b2g0,()) ([(1:Int),t8]:List Int)).bind fun y10 =>
 let v11:Bool:=(mapHas (.arr 2 yI) yR m17008 ([(1:Int),t8]:List Int))
 bif v11 then
 let w5:Option (outDen f41_l4b_outs):=(
 (f52 (mapGet (.arr 2 yI) yR m17008 ([(1:Int),t8]:List Int))).bind fun y12 =>
 (f44 y10.1 y12.1).bind fun y13 =>
 bif (!y13.1) then
 some (.inr ((),((),(),(),()),((),(b5g0,()),r19999009015041,())))
 else
 (f53 (mapGet (.arr 2 yI) yR m17008 ([(1:Int),t8]:List Int))).bind fun y14 =>
 bif y14.1.1 then
 bif (inR (0:Int) 2) then
 bif (inR (0:Int) 2) then
 bif (inR (1:Int) 2) then
 bif (inR (1:Int) 8) then
 gI t8 t8 (
 gI (1:Int) (1:Int) (
 gI (1:Int) (1:Int) (
 (f54 y14.1.2.1).bind fun y15 =>
 gI t8 t8 (
 gI (1:Int) (1:Int) (
 gI (1:Int) (1:Int) (
 gI (1:Int) (1:Int) (
 gI (1:Int) (1:Int) (
 gI (1:Int) (1:Int) (
 gI (1:Int) (1:Int) (
 bif (decide (r19999009015041.length + ([(t8,(y15.1,()))]:List Yn).length≤appLim)) then
 gI (1:Int) (1:Int) (
 bif (inR (1:Int) 8) then f41_l4b b2g0 b5g0 m17008 k (IntKind.wrap .i64 (t8 + 1)) (r19999009015041++([(t8,(y15.1,()))]:List Yn)) else none)
 else none))))))))))
 else none
 else none
 else none
 else none
 else
 f41_l4b b2g0 b5g0 m17008 k (IntKind.wrap .i64 (t8 + 1)) r19999009015041)
 same w5 (same w5 w5)
 else
 bif y10.1.1 then
 bif (inR (0:Int) 2) then
 bif (inR (0:Int) 2) then
 bif (inR (1:Int) 2) then
 bif (inR (1:Int) 8) then
 gI t8 t8 (
 gI (1:Int) (1:Int) (
 gI (1:Int) (1:Int) (
 (f54 y10.1.2.1).bind fun y24 =>
 gI t8 t8 (
 gI (1:Int) (1:Int) (
 gI (1:Int) (1:Int) (
 gI (1:Int) (1:Int) (
 gI (1:Int) (1:Int) (
 gI (1:Int) (1:Int) (
 gI (1:Int) (1:Int) (
 bif (decide (r19999009015041.length + ([(t8,(y24.1,()))]:List Yn).length≤appLim)) then
 gI (1:Int) (1:Int) (
 bif (inR (1:Int) 8) then f41_l4b b2g0 b5g0 m17008 k (IntKind.wrap .i64 (t8 + 1)) (r19999009015041++([(t8,(y24.1,()))]:List Yn)) else none)
 else none))))))))))
 else none
 else none
 else none
 else none
 else
 f41_l4b b2g0 b5g0 m17008 k (IntKind.wrap .i64 (t8 + 1)) r19999009015041
 else
 some (.inl ((),((),(),(),()),((b2g0,()),(),(),(b5g0,()),m17008,r19999009015041,())))
def f41_l4b_n (n:Nat) (x:f41_l4b_head.den):=f41_l4b x.2.2.1.1 x.2.2.2.2.2.1.1 x.2.2.2.2.2.2.1 n x.1.1 x.2.2.2.2.2.2.2.1
def f41_l4b_spec:LSpec:={ thaws:=[.cell 4 1 19999009015041 yN],head:=f41_l4b_head,outs:=f41_l4b_outs,fn:=fun x=>f41_l4b_n (((24:Int) - x.1.1).toNat + 1) x }
def f41_l4a_head:Ann:={ env:=[(0,.cst (.fn 51 [(.ptr 2 0 []),(.ptr 6 0 []),(.ptr 4 0 [])])),(2,.cst (.val yI (2:Int))),(8,YI)],stk:=[[(4,cP 4),(5,cP 5)],[(0,.cst (.tup [(.fn 47 []),(.ptr 5 0 [])]))],[(0,.cst (.tup [(.fn 46 [(.ptr 5 0 []),(.ptr 4 0 [])])]))]],bxs:=[(2,.var [.ty (.arr 8 (.sl yN))]),(6,.var [.cst (.mp 17008)]),(4,.var [.cst .nils,.cst (.row 19999009015041 .whole),.cst (.row 19999008015041 .whole),.cst .nils,.cst .nils,.cst .nils,.cst .nils,.cst .nils]),(5,.var [YI]),(17008,.map (.arr 2 yI) yR),(19999009015041,.row yN false),(19999008015041,.row yN false)] }
def f41_l4a_outs:List (Ex × Ann):=[((.exit 2),{ env:=[(0,.cst (.fn 51 [(.ptr 2 0 []),(.ptr 6 0 []),(.ptr 4 0 [])])),(2,.cst (.val yI (2:Int)))],stk:=[[(4,cP 4),(5,cP 5)],[(0,.cst (.tup [(.fn 47 []),(.ptr 5 0 [])]))],[(0,.cst (.tup [(.fn 46 [(.ptr 5 0 []),(.ptr 4 0 [])])]))]],bxs:=[(2,.var [.ty (.arr 8 (.sl yN))]),(6,.var [.cst (.mp 17008)]),(4,.var [.cst .nils,.cst (.row 19999009015041 .whole),.cst (.row 19999008015041 .whole),.cst .nils,.cst .nils,.cst .nils,.cst .nils,.cst .nils]),(5,.var [YI]),(17008,.map (.arr 2 yI) yR),(19999009015041,.row yN false),(19999008015041,.row yN false)] }),((.pan ⟨130,.emp⟩),{ env:=[],stk:=[[(4,cP 4),(5,cP 5)],[(0,.cst (.tup [(.fn 47 []),(.ptr 5 0 [])]))],[(0,.cst (.tup [(.fn 46 [(.ptr 5 0 []),(.ptr 4 0 [])])]))]],bxs:=[(4,.var [.cst .nils,.cst (.row 19999009015041 .whole),.cst (.row 19999008015041 .whole),.cst .nils,.cst .nils,.cst .nils,.cst .nils,.cst .nils]),(5,.var [YI]),(19999009015041,.row yN false),(19999008015041,.row yN false)] })]
def f41_l4a (b2g0:(List (List Yn))) (b5g0:Int) (m17008:(List ((List Int) × Yr))) (r19999009015041:(List Yn)):Nat→Int→(List Yn)→Option (outDen f41_l4a_outs)
 | 0,_,_=>none
 | k + 1,t8,r19999008015041 =>
 bif (decide (t8 < (24:Int))) then
 (f43 (b2g0,()) ([(2:Int),t8]:List Int)).bind fun y32 =>
 let v33:Bool:=(mapHas (.arr 2 yI) yR m17008 ([(2:Int),t8]:List Int))
 bif v33 then
 let w6:Option (outDen f41_l4a_outs):=(
 (f52 (mapGet (.arr 2 yI) yR m17008 ([(2:Int),t8]:List Int))).bind fun y34 =>
 (f44 y32.1 y34.1).bind fun y35 =>
 bif (!y35.1) then
 some (.inr ((),((),(),(),()),((),(b5g0,()),r19999009015041,r19999008015041,())))
 else
 (f53 (mapGet (.arr 2 yI) yR m17008 ([(2:Int),t8]:List Int))).bind fun y36 =>
 bif y36.1.1 then
 bif (inR (0:Int) 2) then
 bif (inR (0:Int) 2) then
 bif (inR (1:Int) 2) then
 bif (inR (2:Int) 8) then
 gI t8 t8 (
 gI (2:Int) (2:Int) (
 gI (2:Int) (2:Int) (
 (f54 y36.1.2.1).bind fun y37 =>
 gI t8 t8 (
 gI (2:Int) (2:Int) (
 gI (2:Int) (2:Int) (
 gI (2:Int) (2:Int) (
 gI (2:Int) (2:Int) (
 gI (2:Int) (2:Int) (
 gI (2:Int) (2:Int) (
 bif (decide (r19999008015041.length + ([(t8,(y37.1,()))]:List Yn).length≤appLim)) then
 gI (2:Int) (2:Int) (
 bif (inR (2:Int) 8) then f41_l4a b2g0 b5g0 m17008 r19999009015041 k (IntKind.wrap .i64 (t8 + 1)) (r19999008015041++([(t8,(y37.1,()))]:List Yn)) else none)
 else none))))))))))
 else none
 else none
 else none
 else none
 else
 f41_l4a b2g0 b5g0 m17008 r19999009015041 k (IntKind.wrap .i64 (t8 + 1)) r19999008015041)
 same w6 (same w6 w6)
 else
 bif y32.1.1 then
 bif (inR (0:Int) 2) then
 bif (inR (0:Int) 2) then
 bif (inR (1:Int) 2) then
 bif (inR (2:Int) 8) then
 gI t8 t8 (
 gI (2:Int) (2:Int) (
 gI (2:Int) (2:Int) (
 (f54 y32.1.2.1).bind fun y46 =>
 gI t8 t8 (
 gI (2:Int) (2:Int) (
 gI (2:Int) (2:Int) (
 gI (2:Int) (2:Int) (
 gI (2:Int) (2:Int) (
 gI (2:Int) (2:Int) (
 gI (2:Int) (2:Int) (
 bif (decide (r19999008015041.length + ([(t8,(y46.1,()))]:List Yn).length≤appLim)) then
 gI (2:Int) (2:Int) (
 bif (inR (2:Int) 8) then f41_l4a b2g0 b5g0 m17008 r19999009015041 k (IntKind.wrap .i64 (t8 + 1)) (r19999008015041++([(t8,(y46.1,()))]:List Yn)) else none)
 else none))))))))))
 else none
 else none
 else none
 else none
 else
 f41_l4a b2g0 b5g0 m17008 r19999009015041 k (IntKind.wrap .i64 (t8 + 1)) r19999008015041
 else
 some (.inl ((),((),(),(),()),((b2g0,()),(),(),(b5g0,()),m17008,r19999009015041,r19999008015041,())))
def f41_l4a_n (n:Nat) (x:f41_l4a_head.den):=f41_l4a x.2.2.1.1 x.2.2.2.2.2.1.1 x.2.2.2.2.2.2.1 x.2.2.2.2.2.2.2.1 n x.1.1 x.2.2.2.2.2.2.2.2.1
def f41_l4a_spec:LSpec:={ thaws:=[.cell 4 2 19999008015041 yN],head:=f41_l4a_head,outs:=f41_l4a_outs,fn:=fun x=>f41_l4a_n (((24:Int) - x.1.1).toNat + 1) x }
def f41_l4u_head:Ann:={ env:=[(0,.cst (.fn 51 [(.ptr 2 0 []),(.ptr 6 0 []),(.ptr 4 0 [])])),(2,.cst (.val yI (3:Int))),(8,YI)],stk:=[[(4,cP 4),(5,cP 5)],[(0,.cst (.tup [(.fn 47 []),(.ptr 5 0 [])]))],[(0,.cst (.tup [(.fn 46 [(.ptr 5 0 []),(.ptr 4 0 [])])]))]],bxs:=[(2,.var [.ty (.arr 8 (.sl yN))]),(6,.var [.cst (.mp 17008)]),(4,.var [.cst .nils,.cst (.row 19999009015041 .whole),.cst (.row 19999008015041 .whole),.cst (.row 19999007015041 .whole),.cst .nils,.cst .nils,.cst .nils,.cst .nils]),(5,.var [YI]),(17008,.map (.arr 2 yI) yR),(19999009015041,.row yN false),(19999008015041,.row yN false),(19999007015041,.row yN false)] }
def f41_l4u_outs:List (Ex × Ann):=[((.exit 2),{ env:=[(0,.cst (.fn 51 [(.ptr 2 0 []),(.ptr 6 0 []),(.ptr 4 0 [])])),(2,.cst (.val yI (3:Int)))],stk:=[[(4,cP 4),(5,cP 5)],[(0,.cst (.tup [(.fn 47 []),(.ptr 5 0 [])]))],[(0,.cst (.tup [(.fn 46 [(.ptr 5 0 []),(.ptr 4 0 [])])]))]],bxs:=[(2,.var [.ty (.arr 8 (.sl yN))]),(6,.var [.cst (.mp 17008)]),(4,.var [.cst .nils,.cst (.row 19999009015041 .whole),.cst (.row 19999008015041 .whole),.cst (.row 19999007015041 .whole),.cst .nils,.cst .nils,.cst .nils,.cst .nils]),(5,.var [YI]),(17008,.map (.arr 2 yI) yR),(19999009015041,.row yN false),(19999008015041,.row yN false),(19999007015041,.row yN false)] }),((.pan ⟨130,.emp⟩),{ env:=[],stk:=[[(4,cP 4),(5,cP 5)],[(0,.cst (.tup [(.fn 47 []),(.ptr 5 0 [])]))],[(0,.cst (.tup [(.fn 46 [(.ptr 5 0 []),(.ptr 4 0 [])])]))]],bxs:=[(4,.var [.cst .nils,.cst (.row 19999009015041 .whole),.cst (.row 19999008015041 .whole),.cst (.row 19999007015041 .whole),.cst .nils,.cst .nils,.cst .nils,.cst .nils]),(5,.var [YI]),(19999009015041,.row yN false),(19999008015041,.row yN false),(19999007015041,.row yN false)] })]
def f41_l4u (b2g0:(List (List Yn))) (b5g0:Int) (m17008:(List ((List Int) × Yr))) (r19999009015041:(List Yn)) (r19999008015041:(List Yn)):Nat→Int→(List Yn)→Option (outDen f41_l4u_outs)
 | 0,_,_=>none
 | k + 1,t8,r19999007015041 =>
 bif (decide (t8 < (24:Int))) then
 (f43 (b2g0,()) ([(3:Int),t8]:List Int)).bind fun y55 =>
 let v56:Bool:=(mapHas (.arr 2 yI) yR m17008 ([(3:Int),t8]:List Int))
 bif v56 then
 let w7:Option (outDen f41_l4u_outs):=(
 (f52 (mapGet (.arr 2 yI) yR m17008 ([(3:Int),t8]:List Int))).bind fun y57 =>
 (f44 y55.1 y57.1).bind fun y58 =>
 bif (!y58.1) then
 some (.inr ((),((),(),(),()),((),(b5g0,()),r19999009015041,r19999008015041,r19999007015041,())))
 else
 (f53 (mapGet (.arr 2 yI) yR m17008 ([(3:Int),t8]:List Int))).bind fun y59 =>
 bif y59.1.1 then
 bif (inR (0:Int) 2) then
 bif (inR (0:Int) 2) then
 bif (inR (1:Int) 2) then
 bif (inR (3:Int) 8) then
 gI t8 t8 (
 gI (3:Int) (3:Int) (
 gI (3:Int) (3:Int) (
 (f54 y59.1.2.1).bind fun y60 =>
 gI t8 t8 (
 gI (3:Int) (3:Int) (
 gI (3:Int) (3:Int) (
 gI (3:Int) (3:Int) (
 gI (3:Int) (3:Int) (
 gI (3:Int) (3:Int) (
 gI (3:Int) (3:Int) (
 bif (decide (r19999007015041.length + ([(t8,(y60.1,()))]:List Yn).length≤appLim)) then
 gI (3:Int) (3:Int) (
 bif (inR (3:Int) 8) then f41_l4u b2g0 b5g0 m17008 r19999009015041 r19999008015041 k (IntKind.wrap .i64 (t8 + 1)) (r19999007015041++([(t8,(y60.1,()))]:List Yn)) else none)
 else none))))))))))
 else none
 else none
 else none
 else none
 else
 f41_l4u b2g0 b5g0 m17008 r19999009015041 r19999008015041 k (IntKind.wrap .i64 (t8 + 1)) r19999007015041)
 same w7 (same w7 w7)
 else
 bif y55.1.1 then
 bif (inR (0:Int) 2) then
 bif (inR (0:Int) 2) then
 bif (inR (1:Int) 2) then
 bif (inR (3:Int) 8) then
 gI t8 t8 (
 gI (3:Int) (3:Int) (
 gI (3:Int) (3:Int) (
 (f54 y55.1.2.1).bind fun y69 =>
 gI t8 t8 (
 gI (3:Int) (3:Int) (
 gI (3:Int) (3:Int) (
 gI (3:Int) (3:Int) (
 gI (3:Int) (3:Int) (
 gI (3:Int) (3:Int) (
 gI (3:Int) (3:Int) (
 bif (decide (r19999007015041.length + ([(t8,(y69.1,()))]:List Yn).length≤appLim)) then
 gI (3:Int) (3:Int) (
 bif (inR (3:Int) 8) then f41_l4u b2g0 b5g0 m17008 r19999009015041 r19999008015041 k (IntKind.wrap .i64 (t8 + 1)) (r19999007015041++([(t8,(y69.1,()))]:List Yn)) else none)
 else none))))))))))
 else none
 else none
 else none
 else none
 else
 f41_l4u b2g0 b5g0 m17008 r19999009015041 r19999008015041 k (IntKind.wrap .i64 (t8 + 1)) r19999007015041
 else
 some (.inl ((),((),(),(),()),((b2g0,()),(),(),(b5g0,()),m17008,r19999009015041,r19999008015041,r19999007015041,())))
def f41_l4u_n (n:Nat) (x:f41_l4u_head.den):=f41_l4u x.2.2.1.1 x.2.2.2.2.2.1.1 x.2.2.2.2.2.2.1 x.2.2.2.2.2.2.2.1 x.2.2.2.2.2.2.2.2.1 n x.1.1 x.2.2.2.2.2.2.2.2.2.1
def f41_l4u_spec:LSpec:={ thaws:=[.cell 4 3 19999007015041 yN],head:=f41_l4u_head,outs:=f41_l4u_outs,fn:=fun x=>f41_l4u_n (((24:Int) - x.1.1).toNat + 1) x }
def f41_l4v_head:Ann:={ env:=[(0,.cst (.fn 51 [(.ptr 2 0 []),(.ptr 6 0 []),(.ptr 4 0 [])])),(2,.cst (.val yI (4:Int))),(8,YI)],stk:=[[(4,cP 4),(5,cP 5)],[(0,.cst (.tup [(.fn 47 []),(.ptr 5 0 [])]))],[(0,.cst (.tup [(.fn 46 [(.ptr 5 0 []),(.ptr 4 0 [])])]))]],bxs:=[(2,.var [.ty (.arr 8 (.sl yN))]),(6,.var [.cst (.mp 17008)]),(4,.var [.cst .nils,.cst (.row 19999009015041 .whole),.cst (.row 19999008015041 .whole),.cst (.row 19999007015041 .whole),.cst (.row 19999006015041 .whole),.cst .nils,.cst .nils,.cst .nils]),(5,.var [YI]),(17008,.map (.arr 2 yI) yR),(19999009015041,.row yN false),(19999008015041,.row yN false),(19999007015041,.row yN false),(19999006015041,.row yN false)] }
def f41_l4v_outs:List (Ex × Ann):=[((.exit 2),{ env:=[(0,.cst (.fn 51 [(.ptr 2 0 []),(.ptr 6 0 []),(.ptr 4 0 [])])),(2,.cst (.val yI (4:Int)))],stk:=[[(4,cP 4),(5,cP 5)],[(0,.cst (.tup [(.fn 47 []),(.ptr 5 0 [])]))],[(0,.cst (.tup [(.fn 46 [(.ptr 5 0 []),(.ptr 4 0 [])])]))]],bxs:=[(2,.var [.ty (.arr 8 (.sl yN))]),(6,.var [.cst (.mp 17008)]),(4,.var [.cst .nils,.cst (.row 19999009015041 .whole),.cst (.row 19999008015041 .whole),.cst (.row 19999007015041 .whole),.cst (.row 19999006015041 .whole),.cst .nils,.cst .nils,.cst .nils]),(5,.var [YI]),(17008,.map (.arr 2 yI) yR),(19999009015041,.row yN false),(19999008015041,.row yN false),(19999007015041,.row yN false),(19999006015041,.row yN false)] }),((.pan ⟨130,.emp⟩),{ env:=[],stk:=[[(4,cP 4),(5,cP 5)],[(0,.cst (.tup [(.fn 47 []),(.ptr 5 0 [])]))],[(0,.cst (.tup [(.fn 46 [(.ptr 5 0 []),(.ptr 4 0 [])])]))]],bxs:=[(4,.var [.cst .nils,.cst (.row 19999009015041 .whole),.cst (.row 19999008015041 .whole),.cst (.row 19999007015041 .whole),.cst (.row 19999006015041 .whole),.cst .nils,.cst .nils,.cst .nils]),(5,.var [YI]),(19999009015041,.row yN false),(19999008015041,.row yN false),(19999007015041,.row yN false),(19999006015041,.row yN false)] })]
def f41_l4v (b2g0:(List (List Yn))) (b5g0:Int) (m17008:(List ((List Int) × Yr))) (r19999009015041:(List Yn)) (r19999008015041:(List Yn)) (r19999007015041:(List Yn)):Nat→Int→(List Yn)→Option (outDen f41_l4v_outs)
 | 0,_,_=>none
 | k + 1,t8,r19999006015041 =>
 bif (decide (t8 < (24:Int))) then
 (f43 (b2g0,()) ([(4:Int),t8]:List Int)).bind fun y79 =>
 let v80:Bool:=(mapHas (.arr 2 yI) yR m17008 ([(4:Int),t8]:List Int))
 bif v80 then
 let w8:Option (outDen f41_l4v_outs):=(
 (f52 (mapGet (.arr 2 yI) yR m17008 ([(4:Int),t8]:List Int))).bind fun y81 =>
 (f44 y79.1 y81.1).bind fun y82 =>
 bif (!y82.1) then
 some (.inr ((),((),(),(),()),((),(b5g0,()),r19999009015041,r19999008015041,r19999007015041,r19999006015041,())))
 else
 (f53 (mapGet (.arr 2 yI) yR m17008 ([(4:Int),t8]:List Int))).bind fun y83 =>
 bif y83.1.1 then
 bif (inR (0:Int) 2) then
 bif (inR (0:Int) 2) then
 bif (inR (1:Int) 2) then
 bif (inR (4:Int) 8) then
 gI t8 t8 (
 gI (4:Int) (4:Int) (
 gI (4:Int) (4:Int) (
 (f54 y83.1.2.1).bind fun y84 =>
 gI t8 t8 (
 gI (4:Int) (4:Int) (
 gI (4:Int) (4:Int) (
 gI (4:Int) (4:Int) (
 gI (4:Int) (4:Int) (
 gI (4:Int) (4:Int) (
 gI (4:Int) (4:Int) (
 bif (decide (r19999006015041.length + ([(t8,(y84.1,()))]:List Yn).length≤appLim)) then
 gI (4:Int) (4:Int) (
 bif (inR (4:Int) 8) then f41_l4v b2g0 b5g0 m17008 r19999009015041 r19999008015041 r19999007015041 k (IntKind.wrap .i64 (t8 + 1)) (r19999006015041++([(t8,(y84.1,()))]:List Yn)) else none)
 else none))))))))))
 else none
 else none
 else none
 else none
 else
 f41_l4v b2g0 b5g0 m17008 r19999009015041 r19999008015041 r19999007015041 k (IntKind.wrap .i64 (t8 + 1)) r19999006015041)
 same w8 (same w8 w8)
 else
 bif y79.1.1 then
 bif (inR (0:Int) 2) then
 bif (inR (0:Int) 2) then
 bif (inR (1:Int) 2) then
 bif (inR (4:Int) 8) then
 gI t8 t8 (
 gI (4:Int) (4:Int) (
 gI (4:Int) (4:Int) (
 (f54 y79.1.2.1).bind fun y93 =>
 gI t8 t8 (
 gI (4:Int) (4:Int) (
 gI (4:Int) (4:Int) (
 gI (4:Int) (4:Int) (
 gI (4:Int) (4:Int) (
 gI (4:Int) (4:Int) (
 gI (4:Int) (4:Int) (
 bif (decide (r19999006015041.length + ([(t8,(y93.1,()))]:List Yn).length≤appLim)) then
 gI (4:Int) (4:Int) (
 bif (inR (4:Int) 8) then f41_l4v b2g0 b5g0 m17008 r19999009015041 r19999008015041 r19999007015041 k (IntKind.wrap .i64 (t8 + 1)) (r19999006015041++([(t8,(y93.1,()))]:List Yn)) else none)
 else none))))))))))
 else none
 else none
 else none
 else none
 else
 f41_l4v b2g0 b5g0 m17008 r19999009015041 r19999008015041 r19999007015041 k (IntKind.wrap .i64 (t8 + 1)) r19999006015041
 else
 some (.inl ((),((),(),(),()),((b2g0,()),(),(),(b5g0,()),m17008,r19999009015041,r19999008015041,r19999007015041,r19999006015041,())))
def f41_l4v_n (n:Nat) (x:f41_l4v_head.den):=f41_l4v x.2.2.1.1 x.2.2.2.2.2.1.1 x.2.2.2.2.2.2.1 x.2.2.2.2.2.2.2.1 x.2.2.2.2.2.2.2.2.1 x.2.2.2.2.2.2.2.2.2.1 n x.1.1 x.2.2.2.2.2.2.2.2.2.2.1
def f41_l4v_spec:LSpec:={ thaws:=[.cell 4 4 19999006015041 yN],head:=f41_l4v_head,outs:=f41_l4v_outs,fn:=fun x=>f41_l4v_n (((24:Int) - x.1.1).toNat + 1) x }
def f41_l4w_head:Ann:={ env:=[(0,.cst (.fn 51 [(.ptr 2 0 []),(.ptr 6 0 []),(.ptr 4 0 [])])),(2,.cst (.val yI (5:Int))),(8,YI)],stk:=[[(4,cP 4),(5,cP 5)],[(0,.cst (.tup [(.fn 47 []),(.ptr 5 0 [])]))],[(0,.cst (.tup [(.fn 46 [(.ptr 5 0 []),(.ptr 4 0 [])])]))]],bxs:=[(2,.var [.ty (.arr 8 (.sl yN))]),(6,.var [.cst (.mp 17008)]),(4,.var [.cst .nils,.cst (.row 19999009015041 .whole),.cst (.row 19999008015041 .whole),.cst (.row 19999007015041 .whole),.cst (.row 19999006015041 .whole),.cst (.row 19999005015041 .whole),.cst .nils,.cst .nils]),(5,.var [YI]),(17008,.map (.arr 2 yI) yR),(19999009015041,.row yN false),(19999008015041,.row yN false),(19999007015041,.row yN false),(19999006015041,.row yN false),(19999005015041,.row yN false)] }
def f41_l4w_outs:List (Ex × Ann):=[((.exit 2),{ env:=[(0,.cst (.fn 51 [(.ptr 2 0 []),(.ptr 6 0 []),(.ptr 4 0 [])])),(2,.cst (.val yI (5:Int)))],stk:=[[(4,cP 4),(5,cP 5)],[(0,.cst (.tup [(.fn 47 []),(.ptr 5 0 [])]))],[(0,.cst (.tup [(.fn 46 [(.ptr 5 0 []),(.ptr 4 0 [])])]))]],bxs:=[(2,.var [.ty (.arr 8 (.sl yN))]),(6,.var [.cst (.mp 17008)]),(4,.var [.cst .nils,.cst (.row 19999009015041 .whole),.cst (.row 19999008015041 .whole),.cst (.row 19999007015041 .whole),.cst (.row 19999006015041 .whole),.cst (.row 19999005015041 .whole),.cst .nils,.cst .nils]),(5,.var [YI]),(17008,.map (.arr 2 yI) yR),(19999009015041,.row yN false),(19999008015041,.row yN false),(19999007015041,.row yN false),(19999006015041,.row yN false),(19999005015041,.row yN false)] }),((.pan ⟨130,.emp⟩),{ env:=[],stk:=[[(4,cP 4),(5,cP 5)],[(0,.cst (.tup [(.fn 47 []),(.ptr 5 0 [])]))],[(0,.cst (.tup [(.fn 46 [(.ptr 5 0 []),(.ptr 4 0 [])])]))]],bxs:=[(4,.var [.cst .nils,.cst (.row 19999009015041 .whole),.cst (.row 19999008015041 .whole),.cst (.row 19999007015041 .whole),.cst (.row 19999006015041 .whole),.cst (.row 19999005015041 .whole),.cst .nils,.cst .nils]),(5,.var [YI]),(19999009015041,.row yN false),(19999008015041,.row yN false),(19999007015041,.row yN false),(19999006015041,.row yN false),(19999005015041,.row yN false)] })]
def f41_l4w (b2g0:(List (List Yn))) (b5g0:Int) (m17008:(List ((List Int) × Yr))) (r19999009015041:(List Yn)) (r19999008015041:(List Yn)) (r19999007015041:(List Yn)) (r19999006015041:(List Yn)):Nat→Int→(List Yn)→Option (outDen f41_l4w_outs)
 | 0,_,_=>none
 | k + 1,t8,r19999005015041 =>
 bif (decide (t8 < (24:Int))) then
 (f43 (b2g0,()) ([(5:Int),t8]:List Int)).bind fun y104 =>
 let v105:Bool:=(mapHas (.arr 2 yI) yR m17008 ([(5:Int),t8]:List Int))
 bif v105 then
 let w9:Option (outDen f41_l4w_outs):=(
 (f52 (mapGet (.arr 2 yI) yR m17008 ([(5:Int),t8]:List Int))).bind fun y106 =>
 (f44 y104.1 y106.1).bind fun y107 =>
 bif (!y107.1) then
 some (.inr ((),((),(),(),()),((),(b5g0,()),r19999009015041,r19999008015041,r19999007015041,r19999006015041,r19999005015041,())))
 else
 (f53 (mapGet (.arr 2 yI) yR m17008 ([(5:Int),t8]:List Int))).bind fun y108 =>
 bif y108.1.1 then
 bif (inR (0:Int) 2) then
 bif (inR (0:Int) 2) then
 bif (inR (1:Int) 2) then
 bif (inR (5:Int) 8) then
 gI t8 t8 (
 gI (5:Int) (5:Int) (
 gI (5:Int) (5:Int) (
 (f54 y108.1.2.1).bind fun y109 =>
 gI t8 t8 (
 gI (5:Int) (5:Int) (
 gI (5:Int) (5:Int) (
 gI (5:Int) (5:Int) (
 gI (5:Int) (5:Int) (
 gI (5:Int) (5:Int) (
 gI (5:Int) (5:Int) (
 bif (decide (r19999005015041.length + ([(t8,(y109.1,()))]:List Yn).length≤appLim)) then
 gI (5:Int) (5:Int) (
 bif (inR (5:Int) 8) then f41_l4w b2g0 b5g0 m17008 r19999009015041 r19999008015041 r19999007015041 r19999006015041 k (IntKind.wrap .i64 (t8 + 1)) (r19999005015041++([(t8,(y109.1,()))]:List Yn)) else none)
 else none))))))))))
 else none
 else none
 else none
 else none
 else
 f41_l4w b2g0 b5g0 m17008 r19999009015041 r19999008015041 r19999007015041 r19999006015041 k (IntKind.wrap .i64 (t8 + 1)) r19999005015041)
 same w9 (same w9 w9)
 else
 bif y104.1.1 then
 bif (inR (0:Int) 2) then
 bif (inR (0:Int) 2) then
 bif (inR (1:Int) 2) then
 bif (inR (5:Int) 8) then
 gI t8 t8 (
 gI (5:Int) (5:Int) (
 gI (5:Int) (5:Int) (
 (f54 y104.1.2.1).bind fun y118 =>
 gI t8 t8 (
 gI (5:Int) (5:Int) (
 gI (5:Int) (5:Int) (
 gI (5:Int) (5:Int) (
 gI (5:Int) (5:Int) (
 gI (5:Int) (5:Int) (
 gI (5:Int) (5:Int) (
 bif (decide (r19999005015041.length + ([(t8,(y118.1,()))]:List Yn).length≤appLim)) then
 gI (5:Int) (5:Int) (
 bif (inR (5:Int) 8) then f41_l4w b2g0 b5g0 m17008 r19999009015041 r19999008015041 r19999007015041 r19999006015041 k (IntKind.wrap .i64 (t8 + 1)) (r19999005015041++([(t8,(y118.1,()))]:List Yn)) else none)
 else none))))))))))
 else none
 else none
 else none
 else none
 else
 f41_l4w b2g0 b5g0 m17008 r19999009015041 r19999008015041 r19999007015041 r19999006015041 k (IntKind.wrap .i64 (t8 + 1)) r19999005015041
 else
 some (.inl ((),((),(),(),()),((b2g0,()),(),(),(b5g0,()),m17008,r19999009015041,r19999008015041,r19999007015041,r19999006015041,r19999005015041,())))
def f41_l4w_n (n:Nat) (x:f41_l4w_head.den):=f41_l4w x.2.2.1.1 x.2.2.2.2.2.1.1 x.2.2.2.2.2.2.1 x.2.2.2.2.2.2.2.1 x.2.2.2.2.2.2.2.2.1 x.2.2.2.2.2.2.2.2.2.1 x.2.2.2.2.2.2.2.2.2.2.1 n x.1.1 x.2.2.2.2.2.2.2.2.2.2.2.1
def f41_l4w_spec:LSpec:={ thaws:=[.cell 4 5 19999005015041 yN],head:=f41_l4w_head,outs:=f41_l4w_outs,fn:=fun x=>f41_l4w_n (((24:Int) - x.1.1).toNat + 1) x }
def f41_l4z_head:Ann:={ env:=[(0,.cst (.fn 51 [(.ptr 2 0 []),(.ptr 6 0 []),(.ptr 4 0 [])])),(2,.cst (.val yI (6:Int))),(8,YI)],stk:=[[(4,cP 4),(5,cP 5)],[(0,.cst (.tup [(.fn 47 []),(.ptr 5 0 [])]))],[(0,.cst (.tup [(.fn 46 [(.ptr 5 0 []),(.ptr 4 0 [])])]))]],bxs:=[(2,.var [.ty (.arr 8 (.sl yN))]),(6,.var [.cst (.mp 17008)]),(4,.var [.cst .nils,.cst (.row 19999009015041 .whole),.cst (.row 19999008015041 .whole),.cst (.row 19999007015041 .whole),.cst (.row 19999006015041 .whole),.cst (.row 19999005015041 .whole),.cst (.row 19999004015041 .whole),.cst .nils]),(5,.var [YI]),(17008,.map (.arr 2 yI) yR),(19999009015041,.row yN false),(19999008015041,.row yN false),(19999007015041,.row yN false),(19999006015041,.row yN false),(19999005015041,.row yN false),(19999004015041,.row yN false)] }
def f41_l4z_outs:List (Ex × Ann):=[((.exit 2),{ env:=[(0,.cst (.fn 51 [(.ptr 2 0 []),(.ptr 6 0 []),(.ptr 4 0 [])])),(2,.cst (.val yI (6:Int)))],stk:=[[(4,cP 4),(5,cP 5)],[(0,.cst (.tup [(.fn 47 []),(.ptr 5 0 [])]))],[(0,.cst (.tup [(.fn 46 [(.ptr 5 0 []),(.ptr 4 0 [])])]))]],bxs:=[(2,.var [.ty (.arr 8 (.sl yN))]),(6,.var [.cst (.mp 17008)]),(4,.var [.cst .nils,.cst (.row 19999009015041 .whole),.cst (.row 19999008015041 .whole),.cst (.row 19999007015041 .whole),.cst (.row 19999006015041 .whole),.cst (.row 19999005015041 .whole),.cst (.row 19999004015041 .whole),.cst .nils]),(5,.var [YI]),(17008,.map (.arr 2 yI) yR),(19999009015041,.row yN false),(19999008015041,.row yN false),(19999007015041,.row yN false),(19999006015041,.row yN false),(19999005015041,.row yN false),(19999004015041,.row yN false)] }),((.pan ⟨130,.emp⟩),{ env:=[],stk:=[[(4,cP 4),(5,cP 5)],[(0,.cst (.tup [(.fn 47 []),(.ptr 5 0 [])]))],[(0,.cst (.tup [(.fn 46 [(.ptr 5 0 []),(.ptr 4 0 [])])]))]],bxs:=[(4,.var [.cst .nils,.cst (.row 19999009015041 .whole),.cst (.row 19999008015041 .whole),.cst (.row 19999007015041 .whole),.cst (.row 19999006015041 .whole),.cst (.row 19999005015041 .whole),.cst (.row 19999004015041 .whole),.cst .nils]),(5,.var [YI]),(19999009015041,.row yN false),(19999008015041,.row yN false),(19999007015041,.row yN false),(19999006015041,.row yN false),(19999005015041,.row yN false),(19999004015041,.row yN false)] })]
def f41_l4z (b2g0:(List (List Yn))) (b5g0:Int) (m17008:(List ((List Int) × Yr))) (r19999009015041:(List Yn)) (r19999008015041:(List Yn)) (r19999007015041:(List Yn)) (r19999006015041:(List Yn)) (r19999005015041:(List Yn)):Nat→Int→(List Yn)→Option (outDen f41_l4z_outs)
 | 0,_,_=>none
 | k + 1,t8,r19999004015041 =>
 bif (decide (t8 < (24:Int))) then
 (f43 (b2g0,()) ([(6:Int),t8]:List Int)).bind fun y130 =>
 let v131:Bool:=(mapHas (.arr 2 yI) yR m17008 ([(6:Int),t8]:List Int))
 bif v131 then
 let w10:Option (outDen f41_l4z_outs):=(
 (f52 (mapGet (.arr 2 yI) yR m17008 ([(6:Int),t8]:List Int))).bind fun y132 =>
 (f44 y130.1 y132.1).bind fun y133 =>
 bif (!y133.1) then
 some (.inr ((),((),(),(),()),((),(b5g0,()),r19999009015041,r19999008015041,r19999007015041,r19999006015041,r19999005015041,r19999004015041,())))
 else
 (f53 (mapGet (.arr 2 yI) yR m17008 ([(6:Int),t8]:List Int))).bind fun y134 =>
 bif y134.1.1 then
 bif (inR (0:Int) 2) then
 bif (inR (0:Int) 2) then
 bif (inR (1:Int) 2) then
 bif (inR (6:Int) 8) then
 gI t8 t8 (
 gI (6:Int) (6:Int) (
 gI (6:Int) (6:Int) (
 (f54 y134.1.2.1).bind fun y135 =>
 gI t8 t8 (
 gI (6:Int) (6:Int) (
 gI (6:Int) (6:Int) (
 gI (6:Int) (6:Int) (
 gI (6:Int) (6:Int) (
 gI (6:Int) (6:Int) (
 gI (6:Int) (6:Int) (
 bif (decide (r19999004015041.length + ([(t8,(y135.1,()))]:List Yn).length≤appLim)) then
 gI (6:Int) (6:Int) (
 bif (inR (6:Int) 8) then f41_l4z b2g0 b5g0 m17008 r19999009015041 r19999008015041 r19999007015041 r19999006015041 r19999005015041 k (IntKind.wrap .i64 (t8 + 1)) (r19999004015041++([(t8,(y135.1,()))]:List Yn)) else none)
 else none))))))))))
 else none
 else none
 else none
 else none
 else
 f41_l4z b2g0 b5g0 m17008 r19999009015041 r19999008015041 r19999007015041 r19999006015041 r19999005015041 k (IntKind.wrap .i64 (t8 + 1)) r19999004015041)
 same w10 (same w10 w10)
 else
 bif y130.1.1 then
 bif (inR (0:Int) 2) then
 bif (inR (0:Int) 2) then
 bif (inR (1:Int) 2) then
 bif (inR (6:Int) 8) then
 gI t8 t8 (
 gI (6:Int) (6:Int) (
 gI (6:Int) (6:Int) (
 (f54 y130.1.2.1).bind fun y144 =>
 gI t8 t8 (
 gI (6:Int) (6:Int) (
 gI (6:Int) (6:Int) (
 gI (6:Int) (6:Int) (
 gI (6:Int) (6:Int) (
 gI (6:Int) (6:Int) (
 gI (6:Int) (6:Int) (
 bif (decide (r19999004015041.length + ([(t8,(y144.1,()))]:List Yn).length≤appLim)) then
 gI (6:Int) (6:Int) (
 bif (inR (6:Int) 8) then f41_l4z b2g0 b5g0 m17008 r19999009015041 r19999008015041 r19999007015041 r19999006015041 r19999005015041 k (IntKind.wrap .i64 (t8 + 1)) (r19999004015041++([(t8,(y144.1,()))]:List Yn)) else none)
 else none))))))))))
 else none
 else none
 else none
 else none
 else
 f41_l4z b2g0 b5g0 m17008 r19999009015041 r19999008015041 r19999007015041 r19999006015041 r19999005015041 k (IntKind.wrap .i64 (t8 + 1)) r19999004015041
 else
 some (.inl ((),((),(),(),()),((b2g0,()),(),(),(b5g0,()),m17008,r19999009015041,r19999008015041,r19999007015041,r19999006015041,r19999005015041,r19999004015041,())))
def f41_l4z_n (n:Nat) (x:f41_l4z_head.den):=f41_l4z x.2.2.1.1 x.2.2.2.2.2.1.1 x.2.2.2.2.2.2.1 x.2.2.2.2.2.2.2.1 x.2.2.2.2.2.2.2.2.1 x.2.2.2.2.2.2.2.2.2.1 x.2.2.2.2.2.2.2.2.2.2.1 x.2.2.2.2.2.2.2.2.2.2.2.1 n x.1.1 x.2.2.2.2.2.2.2.2.2.2.2.2.1
def f41_l4z_spec:LSpec:={ thaws:=[.cell 4 6 19999004015041 yN],head:=f41_l4z_head,outs:=f41_l4z_outs,fn:=fun x=>f41_l4z_n (((24:Int) - x.1.1).toNat + 1) x }
def f41_l4y_head:Ann:={ env:=[(0,.cst (.fn 51 [(.ptr 2 0 []),(.ptr 6 0 []),(.ptr 4 0 [])])),(2,.cst (.val yI (7:Int))),(8,YI)],stk:=[[(4,cP 4),(5,cP 5)],[(0,.cst (.tup [(.fn 47 []),(.ptr 5 0 [])]))],[(0,.cst (.tup [(.fn 46 [(.ptr 5 0 []),(.ptr 4 0 [])])]))]],bxs:=[(2,.var [.ty (.arr 8 (.sl yN))]),(6,.var [.cst (.mp 17008)]),(4,.var [.cst .nils,.cst (.row 19999009015041 .whole),.cst (.row 19999008015041 .whole),.cst (.row 19999007015041 .whole),.cst (.row 19999006015041 .whole),.cst (.row 19999005015041 .whole),.cst (.row 19999004015041 .whole),.cst (.row 19999003015041 .whole)]),(5,.var [YI]),(17008,.map (.arr 2 yI) yR),(19999009015041,.row yN false),(19999008015041,.row yN false),(19999007015041,.row yN false),(19999006015041,.row yN false),(19999005015041,.row yN false),(19999004015041,.row yN false),(19999003015041,.row yN false)] }
def f41_l4y_outs:List (Ex × Ann):=[((.exit 2),{ env:=[(0,.cst (.fn 51 [(.ptr 2 0 []),(.ptr 6 0 []),(.ptr 4 0 [])])),(2,.cst (.val yI (7:Int)))],stk:=[[(4,cP 4),(5,cP 5)],[(0,.cst (.tup [(.fn 47 []),(.ptr 5 0 [])]))],[(0,.cst (.tup [(.fn 46 [(.ptr 5 0 []),(.ptr 4 0 [])])]))]],bxs:=[(2,.var [.ty (.arr 8 (.sl yN))]),(6,.var [.cst (.mp 17008)]),(4,.var [.cst .nils,.cst (.row 19999009015041 .whole),.cst (.row 19999008015041 .whole),.cst (.row 19999007015041 .whole),.cst (.row 19999006015041 .whole),.cst (.row 19999005015041 .whole),.cst (.row 19999004015041 .whole),.cst (.row 19999003015041 .whole)]),(5,.var [YI]),(17008,.map (.arr 2 yI) yR),(19999009015041,.row yN false),(19999008015041,.row yN false),(19999007015041,.row yN false),(19999006015041,.row yN false),(19999005015041,.row yN false),(19999004015041,.row yN false),(19999003015041,.row yN false)] }),((.pan ⟨130,.emp⟩),{ env:=[],stk:=[[(4,cP 4),(5,cP 5)],[(0,.cst (.tup [(.fn 47 []),(.ptr 5 0 [])]))],[(0,.cst (.tup [(.fn 46 [(.ptr 5 0 []),(.ptr 4 0 [])])]))]],bxs:=[(4,.var [.cst .nils,.cst (.row 19999009015041 .whole),.cst (.row 19999008015041 .whole),.cst (.row 19999007015041 .whole),.cst (.row 19999006015041 .whole),.cst (.row 19999005015041 .whole),.cst (.row 19999004015041 .whole),.cst (.row 19999003015041 .whole)]),(5,.var [YI]),(19999009015041,.row yN false),(19999008015041,.row yN false),(19999007015041,.row yN false),(19999006015041,.row yN false),(19999005015041,.row yN false),(19999004015041,.row yN false),(19999003015041,.row yN false)] })]
def f41_l4y (b2g0:(List (List Yn))) (b5g0:Int) (m17008:(List ((List Int) × Yr))) (r19999009015041:(List Yn)) (r19999008015041:(List Yn)) (r19999007015041:(List Yn)) (r19999006015041:(List Yn)) (r19999005015041:(List Yn)) (r19999004015041:(List Yn)):Nat→Int→(List Yn)→Option (outDen f41_l4y_outs)
 | 0,_,_=>none
 | k + 1,t8,r19999003015041 =>
 bif (decide (t8 < (24:Int))) then
 (f43 (b2g0,()) ([(7:Int),t8]:List Int)).bind fun y157 =>
 let v158:Bool:=(mapHas (.arr 2 yI) yR m17008 ([(7:Int),t8]:List Int))
 bif v158 then
 let w11:Option (outDen f41_l4y_outs):=(
 (f52 (mapGet (.arr 2 yI) yR m17008 ([(7:Int),t8]:List Int))).bind fun y159 =>
 (f44 y157.1 y159.1).bind fun y160 =>
 bif (!y160.1) then
 some (.inr ((),((),(),(),()),((),(b5g0,()),r19999009015041,r19999008015041,r19999007015041,r19999006015041,r19999005015041,r19999004015041,r19999003015041,())))
 else
 (f53 (mapGet (.arr 2 yI) yR m17008 ([(7:Int),t8]:List Int))).bind fun y161 =>
 bif y161.1.1 then
 bif (inR (0:Int) 2) then
 bif (inR (0:Int) 2) then
 bif (inR (1:Int) 2) then
 bif (inR (7:Int) 8) then
 gI t8 t8 (
 gI (7:Int) (7:Int) (
 gI (7:Int) (7:Int) (
 (f54 y161.1.2.1).bind fun y162 =>
 gI t8 t8 (
 gI (7:Int) (7:Int) (
 gI (7:Int) (7:Int) (
 gI (7:Int) (7:Int) (
 gI (7:Int) (7:Int) (
 gI (7:Int) (7:Int) (
 gI (7:Int) (7:Int) (
 bif (decide (r19999003015041.length + ([(t8,(y162.1,()))]:List Yn).length≤appLim)) then
 gI (7:Int) (7:Int) (
 bif (inR (7:Int) 8) then f41_l4y b2g0 b5g0 m17008 r19999009015041 r19999008015041 r19999007015041 r19999006015041 r19999005015041 r19999004015041 k (IntKind.wrap .i64 (t8 + 1)) (r19999003015041++([(t8,(y162.1,()))]:List Yn)) else none)
 else none))))))))))
 else none
 else none
 else none
 else none
 else
 f41_l4y b2g0 b5g0 m17008 r19999009015041 r19999008015041 r19999007015041 r19999006015041 r19999005015041 r19999004015041 k (IntKind.wrap .i64 (t8 + 1)) r19999003015041)
 same w11 (same w11 w11)
 else
 bif y157.1.1 then
 bif (inR (0:Int) 2) then
 bif (inR (0:Int) 2) then
 bif (inR (1:Int) 2) then
 bif (inR (7:Int) 8) then
 gI t8 t8 (
 gI (7:Int) (7:Int) (
 gI (7:Int) (7:Int) (
 (f54 y157.1.2.1).bind fun y171 =>
 gI t8 t8 (
 gI (7:Int) (7:Int) (
 gI (7:Int) (7:Int) (
 gI (7:Int) (7:Int) (
 gI (7:Int) (7:Int) (
 gI (7:Int) (7:Int) (
 gI (7:Int) (7:Int) (
 bif (decide (r19999003015041.length + ([(t8,(y171.1,()))]:List Yn).length≤appLim)) then
 gI (7:Int) (7:Int) (
 bif (inR (7:Int) 8) then f41_l4y b2g0 b5g0 m17008 r19999009015041 r19999008015041 r19999007015041 r19999006015041 r19999005015041 r19999004015041 k (IntKind.wrap .i64 (t8 + 1)) (r19999003015041++([(t8,(y171.1,()))]:List Yn)) else none)
 else none))))))))))
 else none
 else none
 else none
 else none
 else
 f41_l4y b2g0 b5g0 m17008 r19999009015041 r19999008015041 r19999007015041 r19999006015041 r19999005015041 r19999004015041 k (IntKind.wrap .i64 (t8 + 1)) r19999003015041
 else
 some (.inl ((),((),(),(),()),((b2g0,()),(),(),(b5g0,()),m17008,r19999009015041,r19999008015041,r19999007015041,r19999006015041,r19999005015041,r19999004015041,r19999003015041,())))
def f41_l4y_n (n:Nat) (x:f41_l4y_head.den):=f41_l4y x.2.2.1.1 x.2.2.2.2.2.1.1 x.2.2.2.2.2.2.1 x.2.2.2.2.2.2.2.1 x.2.2.2.2.2.2.2.2.1 x.2.2.2.2.2.2.2.2.2.1 x.2.2.2.2.2.2.2.2.2.2.1 x.2.2.2.2.2.2.2.2.2.2.2.1 x.2.2.2.2.2.2.2.2.2.2.2.2.1 n x.1.1 x.2.2.2.2.2.2.2.2.2.2.2.2.2.1
def f41_l4y_spec:LSpec:={ thaws:=[.cell 4 7 19999003015041 yN],head:=f41_l4y_head,outs:=f41_l4y_outs,fn:=fun x=>f41_l4y_n (((24:Int) - x.1.1).toNat + 1) x }
def f14 (a0:Yc) (a1:((List Yr) × Unit)):Option (Yc × Int × Unit) :=
 (f35 a0).bind fun y1 =>
 bif y1.1 then
 (f19 a1).bind fun y2 =>
 bif (!y2.1) then
 some ((([[],[],[],[],[],[],[],[]]:List (List Yn)),()),(160:Int),())
 else
 (f49_l3x a1.1 (a1.1.length:Int) a0.1 0 (((a1.1.length:Int) - (0:Int)).toNat + 1) (0:Int) ([]:List ((List Int) × Yr))).bind fun o6 =>
 let u7:(List ((List Int) × Yr)):=o6.2.2.1
 let u8:(List (List Yn)):=o6.2.2.2.1.1
 let u9:Int:=o6.2.2.2.2.2.1.1
 (f41_l4b u8 u9 u7 (((24:Int) - (0:Int)).toNat + 1) (0:Int) []).bind fun o25 =>
 Sum.elim (fun o26 =>
 let u28:(List (List Yn)):=o26.2.2.1.1
 let u29:Int:=o26.2.2.2.2.2.1.1
 let u30:(List ((List Int) × Yr)):=o26.2.2.2.2.2.2.1
 let u31:(List Yn):=o26.2.2.2.2.2.2.2.1
 (f41_l4a u28 u29 u30 u31 (((24:Int) - (0:Int)).toNat + 1) (0:Int) []).bind fun o47 =>
 Sum.elim (fun o48 =>
 let u50:(List (List Yn)):=o48.2.2.1.1
 let u51:Int:=o48.2.2.2.2.2.1.1
 let u52:(List ((List Int) × Yr)):=o48.2.2.2.2.2.2.1
 let u53:(List Yn):=o48.2.2.2.2.2.2.2.1
 let u54:(List Yn):=o48.2.2.2.2.2.2.2.2.1
 (f41_l4u u50 u51 u52 u53 u54 (((24:Int) - (0:Int)).toNat + 1) (0:Int) []).bind fun o70 =>
 Sum.elim (fun o71 =>
 let u73:(List (List Yn)):=o71.2.2.1.1
 let u74:Int:=o71.2.2.2.2.2.1.1
 let u75:(List ((List Int) × Yr)):=o71.2.2.2.2.2.2.1
 let u76:(List Yn):=o71.2.2.2.2.2.2.2.1
 let u77:(List Yn):=o71.2.2.2.2.2.2.2.2.1
 let u78:(List Yn):=o71.2.2.2.2.2.2.2.2.2.1
 (f41_l4v u73 u74 u75 u76 u77 u78 (((24:Int) - (0:Int)).toNat + 1) (0:Int) []).bind fun o94 =>
 Sum.elim (fun o95 =>
 let u97:(List (List Yn)):=o95.2.2.1.1
 let u98:Int:=o95.2.2.2.2.2.1.1
 let u99:(List ((List Int) × Yr)):=o95.2.2.2.2.2.2.1
 let u100:(List Yn):=o95.2.2.2.2.2.2.2.1
 let u101:(List Yn):=o95.2.2.2.2.2.2.2.2.1
 let u102:(List Yn):=o95.2.2.2.2.2.2.2.2.2.1
 let u103:(List Yn):=o95.2.2.2.2.2.2.2.2.2.2.1
 (f41_l4w u97 u98 u99 u100 u101 u102 u103 (((24:Int) - (0:Int)).toNat + 1) (0:Int) []).bind fun o119 =>
 Sum.elim (fun o120 =>
 let u122:(List (List Yn)):=o120.2.2.1.1
 let u123:Int:=o120.2.2.2.2.2.1.1
 let u124:(List ((List Int) × Yr)):=o120.2.2.2.2.2.2.1
 let u125:(List Yn):=o120.2.2.2.2.2.2.2.1
 let u126:(List Yn):=o120.2.2.2.2.2.2.2.2.1
 let u127:(List Yn):=o120.2.2.2.2.2.2.2.2.2.1
 let u128:(List Yn):=o120.2.2.2.2.2.2.2.2.2.2.1
 let u129:(List Yn):=o120.2.2.2.2.2.2.2.2.2.2.2.1
 (f41_l4z u122 u123 u124 u125 u126 u127 u128 u129 (((24:Int) - (0:Int)).toNat + 1) (0:Int) []).bind fun o145 =>
 Sum.elim (fun o146 =>
 let u148:(List (List Yn)):=o146.2.2.1.1
 let u149:Int:=o146.2.2.2.2.2.1.1
 let u150:(List ((List Int) × Yr)):=o146.2.2.2.2.2.2.1
 let u151:(List Yn):=o146.2.2.2.2.2.2.2.1
 let u152:(List Yn):=o146.2.2.2.2.2.2.2.2.1
 let u153:(List Yn):=o146.2.2.2.2.2.2.2.2.2.1
 let u154:(List Yn):=o146.2.2.2.2.2.2.2.2.2.2.1
 let u155:(List Yn):=o146.2.2.2.2.2.2.2.2.2.2.2.1
 let u156:(List Yn):=o146.2.2.2.2.2.2.2.2.2.2.2.2.1
 (f41_l4y u148 u149 u150 u151 u152 u153 u154 u155 u156 (((24:Int) - (0:Int)).toNat + 1) (0:Int) []).bind fun o172 =>
 Sum.elim (fun o173 =>
 let u178:(List Yn):=o173.2.2.2.2.2.2.2.1
 let u179:(List Yn):=o173.2.2.2.2.2.2.2.2.1
 let u180:(List Yn):=o173.2.2.2.2.2.2.2.2.2.1
 let u181:(List Yn):=o173.2.2.2.2.2.2.2.2.2.2.1
 let u182:(List Yn):=o173.2.2.2.2.2.2.2.2.2.2.2.1
 let u183:(List Yn):=o173.2.2.2.2.2.2.2.2.2.2.2.2.1
 let u184:(List Yn):=o173.2.2.2.2.2.2.2.2.2.2.2.2.2.1
 some ((([[],u178,u179,u180,u181,u182,u183,u184]:List (List Yn)),()),(0:Int),())) (fun o174 =>
 some ((([[],[],[],[],[],[],[],[]]:List (List Yn)),()),(160:Int),())) o172) (fun o147 =>
 some ((([[],[],[],[],[],[],[],[]]:List (List Yn)),()),(160:Int),())) o145) (fun o121 =>
 some ((([[],[],[],[],[],[],[],[]]:List (List Yn)),()),(160:Int),())) o119) (fun o96 =>
 some ((([[],[],[],[],[],[],[],[]]:List (List Yn)),()),(160:Int),())) o94) (fun o72 =>
 some ((([[],[],[],[],[],[],[],[]]:List (List Yn)),()),(160:Int),())) o70) (fun o49 =>
 some ((([[],[],[],[],[],[],[],[]]:List (List Yn)),()),(160:Int),())) o47) (fun o27 =>
 some ((([[],[],[],[],[],[],[],[]]:List (List Yn)),()),(160:Int),())) o25
 else
 some ((([[],[],[],[],[],[],[],[]]:List (List Yn)),()),(160:Int),())
def f14_spec:PSpec:={ args:=[yC,(.pair (.sl yR) .unit)],res:=[yC,yI],fn:=fun x=>f14 x.1 x.2.1 }
noncomputable def f14_code:Code:=Tryz.f14.body.getD .skip
noncomputable def f14_code_41:Code:=Tryz.f41.body.getD .skip
noncomputable def f14_code_49:Code:=Tryz.f49.body.getD .skip
noncomputable def f14_env:Env0:={ C:=cfgX,P:=[(19,f19_spec),(35,f35_spec),(43,f43_spec),(44,f44_spec),(50,f50_spec),(52,f52_spec),(53,f53_spec),(54,f54_spec)],L:=[(⟨11,17000,49,3⟩,f49_l3x_spec),(⟨11,19999009000,41,4⟩,f41_l4b_spec),(⟨11,19999008000,41,4⟩,f41_l4a_spec),(⟨11,19999007000,41,4⟩,f41_l4u_spec),(⟨11,19999006000,41,4⟩,f41_l4v_spec),(⟨11,19999005000,41,4⟩,f41_l4w_spec),(⟨11,19999004000,41,4⟩,f41_l4z_spec),(⟨11,19999003000,41,4⟩,f41_l4y_spec)],F:=[(14,Tryz.f14),(41,Tryz.f41),(46,Tryz.f46),(47,Tryz.f47),(48,Tryz.f48),(49,Tryz.f49),(51,Tryz.f51)],I:=[],tot:=[(49,[5]),(51,[4,7])],fuel:=10,vary:=true,sym:=true }
theorem f49_l3x_ok:LoopOK f14_env 11 49 17000 (loopAt f14_code_49 3) f49_l3x_spec :=
 loopOK_of (by kernel_rfl) f49_l3x_n (fun x o h=>⟨_,h⟩) (fun x=>by kernel_rfl) (fun n x=>by kernel_rfl)
theorem f41_l4b_ok:LoopOK f14_env 11 41 19999009000 (loopAt f14_code_41 4) f41_l4b_spec :=
 loopOK_of (by kernel_rfl) f41_l4b_n (fun x o h=>⟨_,h⟩) (fun x=>by kernel_rfl) (fun n x=>by kernel_rfl)
theorem f41_l4a_ok:LoopOK f14_env 11 41 19999008000 (loopAt f14_code_41 4) f41_l4a_spec :=
 loopOK_of (by kernel_rfl) f41_l4a_n (fun x o h=>⟨_,h⟩) (fun x=>by kernel_rfl) (fun n x=>by kernel_rfl)
theorem f41_l4u_ok:LoopOK f14_env 11 41 19999007000 (loopAt f14_code_41 4) f41_l4u_spec :=
 loopOK_of (by kernel_rfl) f41_l4u_n (fun x o h=>⟨_,h⟩) (fun x=>by kernel_rfl) (fun n x=>by kernel_rfl)
theorem f41_l4v_ok:LoopOK f14_env 11 41 19999006000 (loopAt f14_code_41 4) f41_l4v_spec :=
 loopOK_of (by kernel_rfl) f41_l4v_n (fun x o h=>⟨_,h⟩) (fun x=>by kernel_rfl) (fun n x=>by kernel_rfl)
theorem f41_l4w_ok:LoopOK f14_env 11 41 19999005000 (loopAt f14_code_41 4) f41_l4w_spec :=
 loopOK_of (by kernel_rfl) f41_l4w_n (fun x o h=>⟨_,h⟩) (fun x=>by kernel_rfl) (fun n x=>by kernel_rfl)
theorem f41_l4z_ok:LoopOK f14_env 11 41 19999004000 (loopAt f14_code_41 4) f41_l4z_spec :=
 loopOK_of (by kernel_rfl) f41_l4z_n (fun x o h=>⟨_,h⟩) (fun x=>by kernel_rfl) (fun n x=>by kernel_rfl)
theorem f41_l4y_ok:LoopOK f14_env 11 41 19999003000 (loopAt f14_code_41 4) f41_l4y_spec :=
 loopOK_of (by kernel_rfl) f41_l4y_n (fun x o h=>⟨_,h⟩) (fun x=>by kernel_rfl) (fun n x=>by kernel_rfl)
theorem f14_run:zR f14_env 14 Tryz.f14 f14_code f14_spec:=by intro x; kernel_rfl
theorem f14_enter:zQ 14:=zN Tryz.func14
theorem f14_envOK:zE f14_env:=zO cfgX_ok ⟨⟨f19_pure,f19_enter⟩,⟨f35_pure,f35_enter⟩,⟨f43_pure,f43_enter⟩,⟨f44_pure,f44_enter⟩,⟨f50_pure,f50_enter⟩,⟨f52_pure,f52_enter⟩,⟨f53_pure,f53_enter⟩,⟨f54_pure,f54_enter⟩,trivial⟩ trivial ⟨zK Tryz.func14,zK Tryz.func41,zK Tryz.func46,zK Tryz.func47,zK Tryz.func48,zK Tryz.func49,zK Tryz.func51,trivial⟩ ⟨⟨Tryz.f49,f14_code_49,rfl,rfl,f49_l3x_ok⟩,⟨Tryz.f41,f14_code_41,rfl,rfl,f41_l4b_ok⟩,⟨Tryz.f41,f14_code_41,rfl,rfl,f41_l4a_ok⟩,⟨Tryz.f41,f14_code_41,rfl,rfl,f41_l4u_ok⟩,⟨Tryz.f41,f14_code_41,rfl,rfl,f41_l4v_ok⟩,⟨Tryz.f41,f14_code_41,rfl,rfl,f41_l4w_ok⟩,⟨Tryz.f41,f14_code_41,rfl,rfl,f41_l4z_ok⟩,⟨Tryz.f41,f14_code_41,rfl,rfl,f41_l4y_ok⟩,trivial⟩
theorem f14_pure:zU 14 f14_spec:=zP f14_envOK Tryz.f14 f14_code f14_run
end
end Go.V.G
