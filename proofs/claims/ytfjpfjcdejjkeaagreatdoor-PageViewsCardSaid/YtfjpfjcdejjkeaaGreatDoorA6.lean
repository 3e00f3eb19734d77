/- Part of the proof. -/
import Derived.KernelRfl
import Derived.Test.YtfjpfjcdejjkeaaGreatDoorA5
set_option linter.all false
set_option linter.unusedVariables false
set_option linter.unusedSectionVars false
set_option linter.unusedSimpArgs false
namespace Go.V.G
open Go.Proofs
theorem at_i64 (r:List Int) (hr:∀ x∈r,i64 x) (c:Int):i64 (at_ tI r c):=by
 unfold at_
 rw [List.getD_eq_getElem?_getD]
 cases h:r[c.toNat]? with
 | none=>show i64 0; unfold i64; omega
 | some x=>exact hr x (List.mem_of_getElem? h)
def TotC (o:Option (Ch × Unit)):Prop:=∃ c,o = some (c,())∧c.2.2.2.2.2.1.length≤1000∧c.2.2.2.2.2.2.1.length≤1000
theorem tc_bind {α:Type} {o:Option α} {v:α} {f:α→Option (Ch × Unit)} (h:o = some v) (k:TotC (f v)):TotC (o.bind f):=by
 rw [h]; exact k
theorem tc_bif {c:Bool} {x y:Option (Ch × Unit)} (h1:c = true→TotC x) (h2:c = false→TotC y):TotC (bif c then x else y):=by
 cases c with
 | true=>exact h1 rfl
 | false=>exact h2 rfl
theorem tc_t {c:Bool} {x y:Option (Ch × Unit)} (h:c = true) (k:TotC x):TotC (bif c then x else y):=by rw [h]; exact k
theorem all_ids {α:Type} (f:α→Int) (l:List α) (ha:asc f l = true):∀ n:Nat,(∀ k:Nat,k≤n→∃ x∈l,f x = (k:Int))→∃ i,∃ h:i < l.length,n≤i∧f l[i] = (n:Int)
 | 0,h=>by
  obtain ⟨x,hx,e⟩:=h 0 (Nat.le_refl _)
  obtain ⟨i,hi,rfl⟩:=List.getElem_of_mem hx
  exact ⟨i,hi,Nat.zero_le _,e⟩
 | n + 1,h=>by
  obtain ⟨i,hi,h1,h2⟩:=all_ids f l ha n (fun k hk=>h k (by omega))
  obtain ⟨x,hx,e⟩:=h (n + 1) (Nat.le_refl _)
  obtain ⟨j,hj,rfl⟩:=List.getElem_of_mem hx
  refine ⟨j,hj,?_,e⟩
  have hp:=(asc_pairwise f).1 ha
  by_cases hij:i < j
  ·omega
  ·exfalso
   by_cases h3:j = i
   ·subst h3; omega
   ·have:=List.pairwise_iff_getElem.1 hp j i hj hi (by omega)
    omega
theorem free_id {α:Type} (f:α→Int) (l:List α) (ha:asc f l = true) (m:Nat) (hm:l.length < m + 1) (t:Int) (ht:0≤t∧t < (m + 1:Nat)):∃ d:Nat,d≤m∧∀ x∈l,f x ≠ (t + d) % ((m + 1:Nat):Int):=by
 by_cases h:∃ d:Nat,d≤m∧∀ x∈l,f x ≠ (t + d) % ((m + 1:Nat):Int)
 ·exact h
 ·exfalso
  have hall:∀ k:Nat,k≤m→∃ x∈l,f x = (k:Int):=by
   intro k hk
   have hd:∃ d:Nat,d≤m∧(t + d) % ((m + 1:Nat):Int) = (k:Int):=by
    by_cases hkt:t≤k
    ·refine ⟨(k - t).toNat,by omega,?_⟩
     rw [show t + ((k - t).toNat:Int) = (k:Int) by omega]
     exact Int.emod_eq_of_lt (by omega) (by omega)
    ·refine ⟨(k + (m + 1) - t).toNat,by omega,?_⟩
     rw [show t + ((k + (m + 1) - t).toNat:Int) = (k:Int) + ((m + 1:Nat):Int) by omega,Int.add_emod_right]
     exact Int.emod_eq_of_lt (by omega) (by omega)
   obtain ⟨d,hd1,hd2⟩:=hd
   by_cases hx:∃ x∈l,f x = (k:Int)
   ·exact hx
   ·exact (h ⟨d,hd1,fun x hx1 hx2=>hx ⟨x,hx1,by rw [hx2,hd2]⟩⟩).elim
  obtain ⟨i,hi,h1,_⟩:=all_ids f l ha m hall
  omega
theorem step_mod (t:Int) (m:Nat) (hm:m < 1000) (ht:0≤t∧t < (m + 1:Nat)):Int.tmod (IntKind.wrap .i64 (t + (1:Int))) ((m + 1:Nat):Int) = (t + 1) % ((m + 1:Nat):Int):=by
 rw [wrap_i64 _ (by omega) (by omega)]
 exact Int.tmod_eq_emod_of_nonneg (by omega)
theorem l42_11 (t6 t7 t8:Int) {vs es ds} (hok:Ok vs es ds) (b3g0:List Int) (b4g0 b4g1 b4g2 b4g3 b4g4 b4g5:Int) (b4g6:Bool) (b4g7 b4g8 b4g9 b4g10 b5g0 b5g1 b5g2 b5g3 b5g4 b5g5:Int) (b5g6:Bool) (b5g7 b5g8 b5g9 b5g10:Int) :
  ∀ (d k:Nat) (t:Int),d < k→0≤t∧t < (23 + 1:Nat)→(vs.length < 24→∀ x∈vs,kV x ≠ (t + d) % ((23 + 1:Nat):Int)) →
   ∃ t',f42_l11 t6 t7 t8 vs es ds b3g0 b4g0 b4g1 b4g2 b4g3 b4g4 b4g5 b4g6 b4g7 b4g8 b4g9 b4g10 b5g0 b5g1 b5g2 b5g3 b5g4 b5g5 b5g6 b5g7 b5g8 b5g9 b5g10 k t = some ((t6,t7,t8,t',()),(),((vs,es,ds,()),(b3g0,()),(b4g0,b4g1,b4g2,b4g3,b4g4,b4g5,b4g6,b4g7,b4g8,b4g9,b4g10,()),(b5g0,b5g1,b5g2,b5g3,b5g4,b5g5,b5g6,b5g7,b5g8,b5g9,b5g10,()),())):=by
 have hnv:=hok.nv
 intro d
 induction d with
 | zero =>
  intro k t hk ht hfree
  obtain ⟨k,rfl⟩:∃ q,k = q + 1:=⟨k - 1,by omega⟩
  obtain ⟨p,hp,hp2⟩:=f55_pl vs es ds t (by omega)
  refine ⟨t,?_⟩
  unfold f42_l11
  refine (bind_step hp ?_)
  by_cases hlen:vs.length < 24
  ·rcases hp2 with ⟨h1,_⟩ | ⟨i,hi,h1,h2⟩
   ·rw [dF (by show ¬ p ≥ 0; omega)]; rfl
   ·exfalso
    refine hfree hlen vs[i] (List.getElem_mem hi) ?_
    rw [show t + ((0:Nat):Int) = t by omega,Int.emod_eq_of_lt ht.1 ht.2]
    exact h2
  ·show (bif decide (p ≥ 0) then (bif decide ((vs.length:Int) < (24:Int)) then _ else _) else _) = _
   rw [dF (by omega:¬ (vs.length:Int) < 24)]
   cases decide (p ≥ 0) <;> rfl
 | succ d ih =>
  intro k t hk ht hfree
  obtain ⟨k,rfl⟩:∃ q,k = q + 1:=⟨k - 1,by omega⟩
  obtain ⟨p,hp,hp2⟩:=f55_pl vs es ds t (by omega)
  have hs:=step_mod t 23 (by omega) ht
  have hm:0≤(t + 1) % ((23 + 1:Nat):Int)∧(t + 1) % ((23 + 1:Nat):Int) < (23 + 1:Nat):=⟨Int.emod_nonneg _ (by omega),Int.emod_lt_of_pos _ (by omega)⟩
  obtain ⟨t',h'⟩:=ih k ((t + 1) % ((23 + 1:Nat):Int)) (by omega) hm (fun hl x hx=>by
   have:=hfree hl x hx
   rw [Int.emod_add_emod,show t + 1 + (d:Int) = t + ((d + 1:Nat):Int) by omega]
   exact this)
  by_cases hlen:vs.length < 24
  ·by_cases hp0:p ≥ 0
   ·refine ⟨t',?_⟩
    unfold f42_l11
    refine (bind_step hp ?_)
    rw [dT (show p ≥ 0 from hp0)]
    show (bif decide ((vs.length:Int) < (24:Int)) then _ else _) = _
    rw [dT (by omega:(vs.length:Int) < 24)]
    rw [← hs] at h'
    exact h'
   ·refine ⟨t,?_⟩
    unfold f42_l11
    refine (bind_step hp ?_)
    rw [dF (show ¬ p ≥ 0 from hp0)]
    rfl
  ·refine ⟨t,?_⟩
   unfold f42_l11
   refine (bind_step hp ?_)
   show (bif decide (p ≥ 0) then (bif decide ((vs.length:Int) < (24:Int)) then _ else _) else _) = _
   rw [dF (by omega:¬ (vs.length:Int) < 24)]
   cases decide (p ≥ 0) <;> rfl
theorem l42_14 (t6 t7 t8 t9:Int) {vs es ds} (hok:Ok vs es ds) (b3g0:List Int) (b4g0 b4g1 b4g2 b4g3 b4g4 b4g5:Int) (b4g6:Bool) (b4g7 b4g8 b4g9 b4g10 b5g0 b5g1 b5g2 b5g3 b5g4 b5g5:Int) (b5g6:Bool) (b5g7 b5g8 b5g9 b5g10:Int) :
  ∀ (d k:Nat) (t:Int),d < k→0≤t∧t < (39 + 1:Nat)→(es.length < 40→∀ x∈es,kE x ≠ (t + d) % ((39 + 1:Nat):Int)) →
   ∃ t',f42_l14 t6 t7 t8 t9 vs es ds b3g0 b4g0 b4g1 b4g2 b4g3 b4g4 b4g5 b4g6 b4g7 b4g8 b4g9 b4g10 b5g0 b5g1 b5g2 b5g3 b5g4 b5g5 b5g6 b5g7 b5g8 b5g9 b5g10 k t = some ((t6,t7,t8,t9,t',()),(),((vs,es,ds,()),(b3g0,()),(b4g0,b4g1,b4g2,b4g3,b4g4,b4g5,b4g6,b4g7,b4g8,b4g9,b4g10,()),(b5g0,b5g1,b5g2,b5g3,b5g4,b5g5,b5g6,b5g7,b5g8,b5g9,b5g10,()),())):=by
 have hne:=hok.ne
 intro d
 induction d with
 | zero =>
  intro k t hk ht hfree
  obtain ⟨k,rfl⟩:∃ q,k = q + 1:=⟨k - 1,by omega⟩
  obtain ⟨p,hp,hp2⟩:=f57_pl vs es ds t (by omega)
  refine ⟨t,?_⟩
  unfold f42_l14
  refine (bind_step hp ?_)
  by_cases hlen:es.length < 40
  ·rcases hp2 with ⟨h1,_⟩ | ⟨i,hi,h1,h2⟩
   ·rw [dF (by show ¬ p ≥ 0; omega)]; rfl
   ·exfalso
    refine hfree hlen es[i] (List.getElem_mem hi) ?_
    rw [show t + ((0:Nat):Int) = t by omega,Int.emod_eq_of_lt ht.1 ht.2]
    exact h2
  ·show (bif decide (p ≥ 0) then (bif decide ((es.length:Int) < (40:Int)) then _ else _) else _) = _
   rw [dF (by omega:¬ (es.length:Int) < 40)]
   cases decide (p ≥ 0) <;> rfl
 | succ d ih =>
  intro k t hk ht hfree
  obtain ⟨k,rfl⟩:∃ q,k = q + 1:=⟨k - 1,by omega⟩
  obtain ⟨p,hp,hp2⟩:=f57_pl vs es ds t (by omega)
  have hs:=step_mod t 39 (by omega) ht
  have hm:0≤(t + 1) % ((39 + 1:Nat):Int)∧(t + 1) % ((39 + 1:Nat):Int) < (39 + 1:Nat):=⟨Int.emod_nonneg _ (by omega),Int.emod_lt_of_pos _ (by omega)⟩
  obtain ⟨t',h'⟩:=ih k ((t + 1) % ((39 + 1:Nat):Int)) (by omega) hm (fun hl x hx=>by
   have:=hfree hl x hx
   rw [Int.emod_add_emod,show t + 1 + (d:Int) = t + ((d + 1:Nat):Int) by omega]
   exact this)
  by_cases hlen:es.length < 40
  ·by_cases hp0:p ≥ 0
   ·refine ⟨t',?_⟩
    unfold f42_l14
    refine (bind_step hp ?_)
    rw [dT (show p ≥ 0 from hp0)]
    show (bif decide ((es.length:Int) < (40:Int)) then _ else _) = _
    rw [dT (by omega:(es.length:Int) < 40)]
    rw [← hs] at h'
    exact h'
   ·refine ⟨t,?_⟩
    unfold f42_l14
    refine (bind_step hp ?_)
    rw [dF (show ¬ p ≥ 0 from hp0)]
    rfl
  ·refine ⟨t,?_⟩
   unfold f42_l14
   refine (bind_step hp ?_)
   show (bif decide (p ≥ 0) then (bif decide ((es.length:Int) < (40:Int)) then _ else _) else _) = _
   rw [dF (by omega:¬ (es.length:Int) < 40)]
   cases decide (p ≥ 0) <;> rfl
end Go.V.G
namespace Go.V.G
open Go.Proofs
theorem l42_38 (t6:Int) {vs es ds} (hok:Ok vs es ds) (b3g0:List Int) (hx:∀ x∈b3g0,i64 x) (hl6:b3g0.length≤1000) (b4g0 b4g1 b4g2 b4g3 b4g4 b4g5:Int) (b4g6:Bool) (b4g7 b4g8 b4g9 b4g10 b5g0 b5g1 b5g2 b5g3 b5g4 b5g5:Int) (b5g6:Bool) (b5g7 b5g8 b5g9 b5g10:Int) :
  ∀ (m k j:Nat) (r:List Int),80 - j≤m→m < k→j≤80→r.length≤j →
   ∃ r',r'.length≤80∧f42_l38 t6 vs es ds b3g0 b4g0 b4g1 b4g2 b4g3 b4g4 b4g5 b4g6 b4g7 b4g8 b4g9 b4g10 b5g0 b5g1 b5g2 b5g3 b5g4 b5g5 b5g6 b5g7 b5g8 b5g9 b5g10 k (j:Int) r = some ((),(),((b4g0,b4g1,b4g2,b4g3,b4g4,b4g5,b4g6,b4g7,b4g8,b4g9,b4g10,()),(b5g0,b5g1,b5g2,b5g3,b5g4,b5g5,b5g6,b5g7,b5g8,b5g9,b5g10,()),r',())):=by
 have hne:=hok.ne
 intro m
 induction m with
 | zero =>
  intro k j r h1 h2 h3 h4
  obtain ⟨k,rfl⟩:∃ q,k = q + 1:=⟨k - 1,by omega⟩
  refine ⟨r,by omega,?_⟩
  unfold f42_l38
  rw [dF (by omega)]
  rfl
 | succ m ih =>
  intro k j r h1 h2 h3 h4
  obtain ⟨k,rfl⟩:∃ q,k = q + 1:=⟨k - 1,by omega⟩
  by_cases hj:j < 80
  ·obtain ⟨n,n1,_⟩:=f91_at vs es ds (j:Int) (by omega)
   have w1:IntKind.wrap .i64 ((1:Int) + (j:Int)) = 1 + (j:Int):=wrap_i64 _ (by omega) (by omega)
   have e1:decide ((j:Int) < (80:Int)) = true:=dT (by omega)
   have e2:inR (4:Int) 6 = true:=by decide
   have e3:decide ((1:Int) + (j:Int) ≠ 0) = true:=dT (by omega)
   have f1:=f45_eq (IntKind.wrap .i64 (Int.tdiv (at_ tI b3g0 (4:Int)) (1 + (j:Int)))) 2 (wrap_rng _) (by omega)
   have hap:decide (r.length + ([(j:Int)]:List Int).length≤appLim) = true:=appLe _ (by simp only [List.length_cons,List.length_nil]; omega)
   obtain ⟨r1,a1,a2⟩:=ih k (j + 1) r (by omega) (by omega) (by omega) (by omega)
   obtain ⟨r2,b1,b2⟩:=ih k (j + 1) (r++[(j:Int)]) (by omega) (by omega) (by omega) (by simp only [List.length_append,List.length_cons,List.length_nil]; omega)
   by_cases c1:n = t6
   ·by_cases c2:pkV (IntKind.wrap .i64 (Int.tdiv (at_ tI b3g0 (4:Int)) (1 + (j:Int)))) 2 = 1
    ·refine ⟨r2,b1,?_⟩
     unfold f42_l38
     simp only [e1,cond_true,n1,Option.bind_some,dT c1,e2,w1,e3,f1,dT c2,hap,wS j (by omega)]
     exact b2
    ·refine ⟨r1,a1,?_⟩
     unfold f42_l38
     simp only [e1,cond_true,n1,Option.bind_some,dT c1,e2,w1,e3,f1,dF c2,cond_false,wS j (by omega)]
     exact a2
   ·refine ⟨r1,a1,?_⟩
    unfold f42_l38
    simp only [e1,cond_true,n1,Option.bind_some,dF c1,cond_false,wS j (by omega)]
    exact a2
  ·refine ⟨r,by omega,?_⟩
   unfold f42_l38
   rw [dF (by omega)]
   rfl
theorem l42_47 (vs:List Vx) (hnv:vs.length≤1000) (es:List Ed) (ds:List Int) (b3g0:List Int) (b4g0 b4g1 b4g2 b4g3 b4g4 b4g5:Int) (b4g6:Bool) (b4g7 b4g8 b4g9 b4g10 b5g0 b5g1 b5g2 b5g3 b5g4 b5g5:Int) (b5g6:Bool) (b5g7 b5g8 b5g9 b5g10:Int) :
  ∀ (m k j:Nat) (r:List Int),vs.length - j≤m→m < k→j≤vs.length→r.length≤3 →
   ∃ r',r'.length≤3∧f42_l47 vs es ds b3g0 b4g0 b4g1 b4g2 b4g3 b4g4 b4g5 b4g6 b4g7 b4g8 b4g9 b4g10 b5g0 b5g1 b5g2 b5g3 b5g4 b5g5 b5g6 b5g7 b5g8 b5g9 b5g10 k (j:Int) r = some ((),(),((b4g0,b4g1,b4g2,b4g3,b4g4,b4g5,b4g6,b4g7,b4g8,b4g9,b4g10,()),(b5g0,b5g1,b5g2,b5g3,b5g4,b5g5,b5g6,b5g7,b5g8,b5g9,b5g10,()),r',())):=by
 intro m
 induction m with
 | zero =>
  intro k j r h1 h2 h3 h4
  obtain ⟨k,rfl⟩:∃ q,k = q + 1:=⟨k - 1,by omega⟩
  refine ⟨r,by omega,?_⟩
  unfold f42_l47
  rw [dF (by omega)]
  rfl
 | succ m ih =>
  intro k j r h1 h2 h3 h4
  obtain ⟨k,rfl⟩:∃ q,k = q + 1:=⟨k - 1,by omega⟩
  by_cases hj:j < vs.length
  ·have w1:IntKind.wrap .i64 ((1:Int) + (j:Int)) = 1 + (j:Int):=wrap_i64 _ (by omega) (by omega)
   have e1:decide ((j:Int) < (vs.length:Int)) = true:=dT (by omega)
   by_cases h3r:r.length < 3
   ·have e0:decide ((r.length:Int) < (3:Int)) = true:=dT (by omega)
    have e2:inR (3:Int) 6 = true:=by decide
    have e3:decide ((1:Int) + (j:Int) ≠ 0) = true:=dT (by omega)
    have f1:=f45_eq (IntKind.wrap .i64 (Int.tdiv (at_ tI b3g0 (3:Int)) (1 + (j:Int)))) 3 (wrap_rng _) (by omega)
    have hap:∀ x:Int,decide (r.length + ([x]:List Int).length≤appLim) = true:=fun x=>appLe _ (by simp only [List.length_cons,List.length_nil]; omega)
    have e4:inR (j:Int) vs.length = true:=by rw [inRN]; exact dT hj
    obtain ⟨r1,a1,a2⟩:=ih k (j + 1) r (by omega) (by omega) (by omega) (by omega)
    obtain ⟨r2,b1,b2⟩:=ih k (j + 1) (r++[(at_ tV vs (j:Int)).1]) (by omega) (by omega) (by omega) (by simp only [List.length_append,List.length_cons,List.length_nil]; omega)
    by_cases c2:pkV (IntKind.wrap .i64 (Int.tdiv (at_ tI b3g0 (3:Int)) (1 + (j:Int)))) 3 = 1
    ·refine ⟨r2,b1,?_⟩
     unfold f42_l47
     simp only [e1,e0,cond_true,e2,w1,e3,f1,Option.bind_some,dT c2,e4,hap,wS j (by omega)]
     exact b2
    ·refine ⟨r1,a1,?_⟩
     unfold f42_l47
     simp only [e1,e0,cond_true,e2,w1,e3,f1,Option.bind_some,dF c2,cond_false,wS j (by omega)]
     exact a2
   ·refine ⟨r,h4,?_⟩
    unfold f42_l47
    simp only [e1,cond_true,dF (show ¬ (r.length:Int) < (3:Int) by omega),cond_false]
    rfl
  ·refine ⟨r,h4,?_⟩
   unfold f42_l47
   rw [dF (by omega)]
   rfl
theorem tc_fin (c:Ch) (h1:c.2.2.2.2.2.1.length≤1000) (h2:c.2.2.2.2.2.2.1.length≤1000):TotC (some (c,())):=⟨c,rfl,h1,h2⟩
set_option maxHeartbeats 1000000 in
theorem tail_ok {vs es ds} (hok:Ok vs es ds) (x:List Int) (hx:∀ y∈x,i64 y) (hl:x.length≤1000) (id other edge kd free:Int) (hf:0≤free∧free < 24):TotC (tail42 (vs,es,ds,()) x id other edge kd free):=by
 have hnv:=hok.nv
 have q:=fun (c n:Int) (hn:0 < n)=>f45_eq (at_ tI x c) n (at_i64 x hx c) hn
 have free1:∃ d:Nat,d≤23∧(vs.length < 24→∀ v∈vs,kV v ≠ (free + d) % ((23 + 1:Nat):Int)):=by
  by_cases h:vs.length < 24
  ·obtain ⟨d,h1,h2⟩:=free_id kV vs hok.av 23 h free hf
   exact ⟨d,h1,fun _=>h2⟩
  ·exact ⟨0,by omega,fun h'=>absurd h' h⟩
 obtain ⟨d1,g1,g2⟩:=free1
 unfold tail42
 obtain ⟨t1,ht1⟩:=l42_11 id other edge hok x 0 0 0 0 0 0 false 0 0 0 0 (IntKind.wrap .i64 ((1:Int) + kd)) 0 0 0 0 0 false 0 0 0 0 d1 26 free (by omega) hf g2
 refine tc_bind ht1 ?_
 refine tc_t (by decide) ?_
 refine tc_bind (q 4 40 (by omega)) ?_
 have hr:=pkV_rng (at_ tI x 4) 40 (by omega)
 have free2:∃ d:Nat,d≤39∧(es.length < 40→∀ v∈es,kE v ≠ (pkV (at_ tI x 4) 40 + d) % ((39 + 1:Nat):Int)):=by
  by_cases h:es.length < 40
  ·obtain ⟨d,h1,h2⟩:=free_id kE es hok.ae 39 h _ hr
   exact ⟨d,h1,fun _=>h2⟩
  ·exact ⟨0,by omega,fun h'=>absurd h' h⟩
 obtain ⟨d2,g3,g4⟩:=free2
 obtain ⟨t2,ht2⟩:=l42_14 id other edge t1 hok x 0 0 0 0 0 0 false 0 0 0 0 (IntKind.wrap .i64 ((1:Int) + kd)) 0 0 0 0 0 false 0 0 0 0 d2 42 _ (by omega) hr g4
 refine tc_bind ht2 ?_
 have z:([]:List Int).length≤1000:=by simp
 refine tc_bif (fun _=>?_) (fun _=>?_)
 ·refine tc_t (by decide) (tc_bind (q 4 4 (by omega)) ?_)
  exact tc_fin _ z z
 refine tc_bif (fun _=>?_) (fun _=>?_)
 ·refine tc_t (by decide) (tc_bind (q 3 2 (by omega)) ?_)
  refine tc_t (by decide) (tc_bind (q 3 12 (by omega)) ?_)
  refine tc_t (by decide) (tc_bind (q 5 6 (by omega)) ?_)
  exact tc_fin _ z z
 refine tc_bif (fun _=>?_) (fun _=>?_)
 ·exact tc_fin _ z z
 refine tc_bif (fun _=>?_) (fun _=>?_)
 ·exact tc_fin _ z z
 refine tc_bif (fun _=>?_) (fun _=>?_)
 ·refine tc_t (by decide) (tc_bind (q 3 12 (by omega)) ?_)
  exact tc_fin _ z z
 refine tc_bif (fun _=>?_) (fun _=>?_)
 ·refine tc_t (by decide) (tc_bind (q 3 6 (by omega)) ?_)
  exact tc_fin _ z z
 refine tc_bif (fun _=>?_) (fun _=>?_)
 ·exact tc_fin _ z z
 refine tc_bif (fun _=>?_) (fun _=>?_)
 ·refine tc_t (by decide) (tc_bind (q 4 4 (by omega)) ?_)
  obtain ⟨r,r1,r2⟩:=l42_38 id hok x hx hl 0 0 0 0 0 0 false 0 0 0 0 (IntKind.wrap .i64 ((1:Int) + kd)) t1 (pkV (at_ tI x 4) 4) 0 0 0 false 0 0 id 0 80 81 0 [] (by omega) (by omega) (by omega) (by simp)
  have rr:r.length≤1000:=by omega
  refine tc_bind r2 ?_
  exact tc_fin _ rr z
 refine tc_bif (fun _=>?_) (fun _=>?_)
 ·refine tc_t (by decide) (tc_bind (q 3 4 (by omega)) ?_)
  exact tc_fin _ z z
 refine tc_bif (fun _=>?_) (fun _=>?_)
 ·obtain ⟨r,r1,r2⟩:=l42_47 vs (by omega) es ds x 0 0 0 0 0 0 false 0 0 0 0 (IntKind.wrap .i64 ((1:Int) + kd)) 0 0 0 0 0 false 0 0 0 0 vs.length (((vs.length:Int) - (0:Int)).toNat + 1) 0 [] (by omega) (by omega) (by omega) (by simp)
  have rr:r.length≤1000:=by omega
  refine tc_bind r2 ?_
  exact tc_fin _ z rr
 ·exact tc_fin _ z z
end Go.V.G
namespace Go.V.G
open Go.Proofs
theorem inR_rng {p:Int} {n:Nat} (h:0≤p∧p < (n:Int)):inR p n = true:=by
 obtain ⟨q,rfl⟩:∃ q:Nat,p = (q:Int):=⟨p.toNat,by omega⟩
 rw [inRN]
 exact dT (by omega)
set_option maxHeartbeats 2000000 in
theorem f42_tot {vs es ds} (hok:Ok vs es ds) (x:List Int) (hx:∀ y∈x,i64 y) (hl:x.length≤1000):TotC (f42 (vs,es,ds,()) x):=by
 have q:=fun (c n:Int) (hn:0 < n)=>f45_eq (at_ tI x c) n (at_i64 x hx c) hn
 unfold f42
 refine tc_t (by decide) (tc_bind (q 0 10 (by omega)) ?_)
 refine tc_t (by decide) (tc_bind (q 1 24 (by omega)) ?_)
 refine tc_t (by decide) (tc_bind (q 2 24 (by omega)) ?_)
 refine tc_t (by decide) (tc_bind (q 1 40 (by omega)) ?_)
 refine tc_bif (fun c1=>?_) (fun _=>?_)
 ·refine tc_t (by decide) (tc_bind (q 5 8 (by omega)) ?_)
  refine tc_bif (fun _=>?_) (fun _=>?_)
  ·have hpv:0 < (vs.length:Int):=of_decide_eq_true c1
   refine tc_t (by decide) (tc_bind (q 1 (vs.length:Int) hpv) ?_)
   refine tc_t (inR_rng (pkV_rng (at_ tI x 1) (vs.length:Int) hpv)) ?_
   refine tc_t (by decide) (tc_bind (q 2 (vs.length:Int) hpv) ?_)
   refine tc_t (inR_rng (pkV_rng (at_ tI x 2) (vs.length:Int) hpv)) ?_
   refine tc_bif (fun c2=>?_) (fun _=>?_)
   ·refine tc_t (by decide) (tc_bind (q 5 8 (by omega)) ?_)
    refine tc_bif (fun _=>?_) (fun _=>?_)
    ·have hpos:0 < (es.length:Int):=of_decide_eq_true c2
     refine tc_t (by decide) (tc_bind (q 1 (es.length:Int) hpos) ?_)
     refine tc_t (inR_rng (pkV_rng (at_ tI x 1) (es.length:Int) hpos)) ?_
     refine tc_t (by decide) (tc_bind (q 3 24 (by omega)) ?_)
     exact tail_ok hok x hx hl _ _ _ _ _ (pkV_rng _ _ (by omega))
    ·refine tc_t (by decide) (tc_bind (q 3 24 (by omega)) ?_)
     exact tail_ok hok x hx hl _ _ _ _ _ (pkV_rng _ _ (by omega))
   ·refine tc_t (by decide) (tc_bind (q 3 24 (by omega)) ?_)
    exact tail_ok hok x hx hl _ _ _ _ _ (pkV_rng _ _ (by omega))
  ·refine tc_bif (fun c2=>?_) (fun _=>?_)
   ·refine tc_t (by decide) (tc_bind (q 5 8 (by omega)) ?_)
    refine tc_bif (fun _=>?_) (fun _=>?_)
    ·have hpos:0 < (es.length:Int):=of_decide_eq_true c2
     refine tc_t (by decide) (tc_bind (q 1 (es.length:Int) hpos) ?_)
     refine tc_t (inR_rng (pkV_rng (at_ tI x 1) (es.length:Int) hpos)) ?_
     refine tc_t (by decide) (tc_bind (q 3 24 (by omega)) ?_)
     exact tail_ok hok x hx hl _ _ _ _ _ (pkV_rng _ _ (by omega))
    ·refine tc_t (by decide) (tc_bind (q 3 24 (by omega)) ?_)
     exact tail_ok hok x hx hl _ _ _ _ _ (pkV_rng _ _ (by omega))
   ·refine tc_t (by decide) (tc_bind (q 3 24 (by omega)) ?_)
    exact tail_ok hok x hx hl _ _ _ _ _ (pkV_rng _ _ (by omega))
 ·refine tc_bif (fun c2=>?_) (fun _=>?_)
  ·refine tc_t (by decide) (tc_bind (q 5 8 (by omega)) ?_)
   refine tc_bif (fun _=>?_) (fun _=>?_)
   ·have hpos:0 < (es.length:Int):=of_decide_eq_true c2
    refine tc_t (by decide) (tc_bind (q 1 (es.length:Int) hpos) ?_)
    refine tc_t (inR_rng (pkV_rng (at_ tI x 1) (es.length:Int) hpos)) ?_
    refine tc_t (by decide) (tc_bind (q 3 24 (by omega)) ?_)
    exact tail_ok hok x hx hl _ _ _ _ _ (pkV_rng _ _ (by omega))
   ·refine tc_t (by decide) (tc_bind (q 3 24 (by omega)) ?_)
    exact tail_ok hok x hx hl _ _ _ _ _ (pkV_rng _ _ (by omega))
  ·refine tc_t (by decide) (tc_bind (q 3 24 (by omega)) ?_)
   exact tail_ok hok x hx hl _ _ _ _ _ (pkV_rng _ _ (by omega))
theorem f83_app {vs es ds} (h:Ok vs es ds) (c:Ch) (he:c.2.2.2.2.2.1.length≤1000) (hd:c.2.2.2.2.2.2.1.length≤1000):AppOut (f83 (vs,es,ds,()) c):=by
 have hnv:=h.nv
 have hne:=h.ne
 have hdl:=h.dl
 unfold f83
 refine app_bind (f48_eq (vs,es,ds,()) (by show vs.length≤_; omega) (by show es.length≤_; omega) (by show ds.length≤_; omega)) ?_
 refine app_bif (fun _=>app_no) (fun _=>?_)
 obtain ⟨b,hb⟩:=f127_tot c (by omega) (by omega)
 refine app_bind hb ?_
 refine app_bif (fun _=>app_no) (fun _=>?_)
 have e1:decide (vs.length≤appLim) = true:=appLe _ (by omega)
 have e2:decide (es.length≤appLim) = true:=appLe _ (by omega)
 have e3:decide (ds.length≤appLim) = true:=appLe _ (by omega)
 simp only [e1,e2,e3,cond_true,same_self]
 exact app_in h c he hd
theorem hist_loop (x:List (List Int)) (hx:∀ r∈x,∀ y∈r,i64 y) (hl6:∀ r∈x,r.length≤1000) (hl:x.length≤9223372036854775807) :
  ∀ (m k j:Nat) (vs:List Vx) (es:List Ed) (ds:List Int) (r:List Ch),x.length - j≤m→m < k→j≤12→Ok vs es ds→r.length≤j →
   ∃ vs' es' ds' r',f37_l3 x k (j:Int) vs es ds r = some ((),(),((vs',es',ds',()),(),r',()))∧Ok vs' es' ds':=by
 intro m
 induction m with
 | zero =>
  intro k j vs es ds r h1 h2 h3 hok hr
  obtain ⟨k,rfl⟩:∃ q,k = q + 1:=⟨k - 1,by omega⟩
  refine ⟨vs,es,ds,r,?_,hok⟩
  unfold f37_l3
  rw [dF (by omega)]
  rfl
 | succ m ih =>
  intro k j vs es ds r h1 h2 h3 hok hr
  obtain ⟨k,rfl⟩:∃ q,k = q + 1:=⟨k - 1,by omega⟩
  by_cases hj:j < x.length
  ·by_cases h12:j < 12
   ·have hget:at_ (.arr 6 tI) x (j:Int) = x[j]:=atN (.arr 6 tI) x j hj
    obtain ⟨c,c1,c2,c3⟩:=f42_tot hok x[j] (hx _ (List.getElem_mem hj)) (hl6 _ (List.getElem_mem hj))
    obtain ⟨g,e,g1,g2⟩:=f83_app hok c c2 c3
    have e1:decide ((j:Int) < (x.length:Int)) = true:=dT (by omega)
    have e2:decide ((j:Int) < (12:Int)) = true:=dT (by omega)
    have e3:inR (j:Int) x.length = true:=by rw [inRN]; exact dT hj
    have hap:decide (r.length + ([c]:List Ch).length≤appLim) = true:=appLe _ (by simp only [List.length_cons,List.length_nil]; omega)
    by_cases h0:e = 0
    ·have hv:=g2 h0
     obtain ⟨gv,ge,gd,gu⟩:=g
     obtain ⟨vs',es',ds',r',q1,q2⟩:=ih k (j + 1) gv ge gd (r++[c]) (by omega) (by omega) (by omega) (ok_of _ _ _ hv) (by simp only [List.length_append,List.length_cons,List.length_nil]; omega)
     refine ⟨vs',es',ds',r',?_,q2⟩
     unfold f37_l3
     simp only [e1,e2,e3,cond_true,hget,c1,Option.bind_some,g1,dT h0,hap,wS j (by omega)]
     exact q1
    ·obtain ⟨vs',es',ds',r',q1,q2⟩:=ih k (j + 1) vs es ds r (by omega) (by omega) (by omega) hok (by omega)
     refine ⟨vs',es',ds',r',?_,q2⟩
     unfold f37_l3
     simp only [e1,e2,e3,cond_true,hget,c1,Option.bind_some,g1,dF h0,cond_false,wS j (by omega)]
     exact q1
   ·refine ⟨vs,es,ds,r,?_,hok⟩
    unfold f37_l3
    simp only [dT (show (j:Int) < (x.length:Int) by omega),cond_true,dF (show ¬ (j:Int) < (12:Int) by omega),cond_false]
    rfl
  ·refine ⟨vs,es,ds,r,?_,hok⟩
   unfold f37_l3
   rw [dF (by omega)]
   rfl
theorem hist_ok (x:List (List Int)) (hx:∀ r∈x,∀ y∈r,i64 y) (hl6:∀ r∈x,r.length≤1000) (hl:x.length≤9223372036854775807) {vs es ds} (hok:Ok vs es ds) :
  ∃ vs' es' ds' r',f37 (vs,es,ds,()) x = some ((vs',es',ds',()),r',())∧Ok vs' es' ds':=by
 obtain ⟨vs',es',ds',r',q1,q2⟩:=hist_loop x hx hl6 hl x.length (((x.length:Int) - (0:Int)).toNat + 1) 0 vs es ds [] (by omega) (by omega) (by omega) hok (by simp)
 exact ⟨vs',es',ds',r',by unfold f37; exact bind_step q1 rfl,q2⟩
end Go.V.G
namespace Go.V.G
open Go.Proofs
end Go.V.G
namespace Go.V.G
open Go.Proofs
structure SmallG (g:Gr):Prop where
 v:g.1.length≤1000
 e:g.2.1.length≤1000
 d:g.2.2.1.length≤1000
end Go.V.G
namespace Go.V.G
open Go.Proofs
theorem at_rng6 (l:List (List Int)) (hl:∀ r∈l,∀ x∈r,i64 x) (j:Nat) (c:Int):i64 (at_ tI (at_ (.arr 6 tI) l (j:Int)) c):=by
 have h0:i64 0:=by unfold i64; omega
 have key:∀ r:List Int,(∀ x∈r,i64 x)→i64 (at_ tI r c):=by
  intro r hr
  unfold at_
  rw [List.getD_eq_getElem?_getD]
  cases h:r[c.toNat]? with
  | none=>exact h0
  | some x=>exact hr x (List.mem_of_getElem? h)
 refine key _ ?_
 intro x hx
 unfold at_ at hx
 rw [List.getD_eq_getElem?_getD] at hx
 cases h:l[(j:Int).toNat]? with
 | none =>
  rw [h] at hx
  have:x∈List.replicate 6 (0:Int):=hx
  rw [(List.mem_replicate.1 this).2]
  exact h0
 | some r =>
  rw [h] at hx
  exact hl r (List.mem_of_getElem? h) x hx
theorem label_in (x:List (List Int)) (hx:∀ r∈x,∀ y∈r,i64 y) (id:Int) (r45:List Nm) (hr:r45.length≤1000):∀ (m k j:Nat),30 - j≤m→x.length - j < k→j≤30 →
  ∃ r',f33_l6 x id r45 k (j:Int) = some ((x,id,()),(),(r',()))∧(r' = r45 ∨ ∃ lb:List Int,lb.length≤64∧r' = r45++[(id,lb,())]):=by
 intro m
 induction m with
 | zero =>
  intro k j h1 h2 h3
  obtain ⟨k,rfl⟩:∃ q,k = q + 1:=⟨k - 1,by omega⟩
  refine ⟨r45,?_,.inl rfl⟩
  unfold f33_l6
  cases decide ((j:Int) < (x.length:Int)) with
  | false=>rfl
  | true =>
   rw [cond_true,dF (by omega)]
   rfl
 | succ m ih =>
  intro k j h1 h2 h3
  obtain ⟨k,rfl⟩:∃ q,k = q + 1:=⟨k - 1,by omega⟩
  by_cases c1:j < x.length
  ·by_cases c2:j < 30
   ·have q0:inR (0:Int) 6 = true:=(inRN 0 6).trans (by simp)
    have q5:inR (5:Int) 6 = true:=(inRN 5 6).trans (by simp)
    have hu:=f33_l6.eq_2 x id r45 (j:Int) k
    rw [dT (show (j:Int) < (x.length:Int) by omega),cond_true,dT (show (j:Int) < 30 by omega),cond_true] at hu
    simp only [inRN,dT c1,cond_true,q0,q5,wS j (by omega)] at hu
    have p2:=f76_eq _ 24 (at_rng6 x hx j 0) (by omega)
    have p4:=f76_eq _ 5 (at_rng6 x hx j 5) (by omega)
    have r4:=pkV_rng (at_ tI (at_ (.arr 6 tI) x (j:Int)) 5) 5 (by omega)
    by_cases c3:pkV (at_ tI (at_ (.arr 6 tI) x (j:Int)) 0) 24 = id
    ·have w1:IntKind.wrap .i64 ((1:Int) + pkV (at_ tI (at_ (.arr 6 tI) x (j:Int)) 5) 5) = 1 + pkV (at_ tI (at_ (.arr 6 tI) x (j:Int)) 5) 5:=wrap_i64 _ (by omega) (by omega)
     have hcut:cutOk 6 (some (1:Int)) (some (1 + pkV (at_ tI (at_ (.arr 6 tI) x (j:Int)) 5) 5)) = true:=by
      unfold cutOk
      simp only [Bool.and_eq_true,decide_eq_true_eq]
      omega
     have hlen:((((at_ (.arr 6 tI) x (j:Int):List Int).take (Int.toNat (1 + pkV (at_ tI (at_ (.arr 6 tI) x (j:Int)) 5) 5))).drop (Int.toNat (1:Int)))).length≤4:=by
      rw [List.length_drop,List.length_take]
      omega
     refine ⟨_,hu.trans (bind_step p2 ?_),.inr ⟨(((at_ (.arr 6 tI) x (j:Int):List Int).take (Int.toNat (1 + pkV (at_ tI (at_ (.arr 6 tI) x (j:Int)) 5) 5))).drop (Int.toNat (1:Int))),by omega,rfl⟩⟩
     simp only [c3,decide_true,cond_true]
     refine bind_step p4 ?_
     show (bif cutOk 6 (some (1:Int)) (some (IntKind.wrap .i64 ((1:Int) + pkV (at_ tI (at_ (.arr 6 tI) x (j:Int)) 5) 5))) then (bif decide (((((at_ (.arr 6 tI) x (j:Int):List Int).take (Int.toNat (IntKind.wrap .i64 ((1:Int) + pkV (at_ tI (at_ (.arr 6 tI) x (j:Int)) 5) 5)))).drop (Int.toNat (1:Int)))).length≤appLim) then (bif decide (r45.length + ([(id,((((at_ (.arr 6 tI) x (j:Int):List Int).take (Int.toNat (IntKind.wrap .i64 ((1:Int) + pkV (at_ tI (at_ (.arr 6 tI) x (j:Int)) 5) 5)))).drop (Int.toNat (1:Int))),()))]:List Nm).length≤appLim) then some ((x,id,()),(),((r45++([(id,((((at_ (.arr 6 tI) x (j:Int):List Int).take (Int.toNat (IntKind.wrap .i64 ((1:Int) + pkV (at_ tI (at_ (.arr 6 tI) x (j:Int)) 5) 5)))).drop (Int.toNat (1:Int))),()))]:List Nm)),())) else none) else none) else none) = _
     rw [w1,hcut,cond_true,dT (show _≤appLim from Nat.le_trans hlen (by unfold appLim; omega)),cond_true,appOk _ _ (by simp; omega)]
     rfl
    ·obtain ⟨r',b1,b2⟩:=ih k (j + 1) (by omega) (by omega) (by omega)
     refine ⟨r',hu.trans (bind_step p2 ?_),b2⟩
     simp only [c3,decide_false,cond_false]
     exact b1
   ·refine ⟨r45,?_,.inl rfl⟩
    unfold f33_l6
    rw [dT (show (j:Int) < (x.length:Int) by omega),cond_true,dF (show ¬ (j:Int) < 30 by omega)]
    rfl
  ·refine ⟨r45,?_,.inl rfl⟩
   unfold f33_l6
   rw [dF (by omega)]
   rfl
theorem labels_loop (x:List (List Int)) (hx:∀ r∈x,∀ y∈r,i64 y):∀ (m k j:Nat) (r:List Nm),24 - j≤m→m < k→j≤24→r.length≤j→r.Pairwise (fun a b=>a.1 < b.1)→(∀ y∈r,0≤y.1∧y.1 < (j:Int)∧y.2.1.length≤64) →
  ∃ r',f33_l3 k x (j:Int) r = some ((),(),(r',()))∧r'.length≤24∧r'.Pairwise (fun a b=>a.1 < b.1)∧∀ y∈r',0≤y.1∧y.1 < 24∧y.2.1.length≤64:=by
 intro m
 induction m with
 | zero =>
  intro k j r h1 h2 h3 h4 h5 h6
  obtain ⟨k,rfl⟩:∃ q,k = q + 1:=⟨k - 1,by omega⟩
  refine ⟨r,?_,by omega,h5,fun y hy=>⟨(h6 y hy).1,Int.lt_of_lt_of_le (h6 y hy).2.1 (by omega),(h6 y hy).2.2⟩⟩
  unfold f33_l3
  rw [dF (by omega)]
  rfl
 | succ m ih =>
  intro k j r h1 h2 h3 h4 h5 h6
  obtain ⟨k,rfl⟩:∃ q,k = q + 1:=⟨k - 1,by omega⟩
  by_cases hj:j < 24
  ·obtain ⟨r1,b1,b2⟩:=label_in x hx (j:Int) r (by omega) 30 (((x.length:Int) - (0:Int)).toNat + 1) 0 (by omega) (by omega) (by omega)
   have hu:=f33_l3.eq_2 x (j:Int) r k
   rw [dT (by omega),cond_true] at hu
   have hr1:r1.length≤j + 1∧r1.Pairwise (fun a b=>a.1 < b.1)∧∀ y∈r1,0≤y.1∧y.1 < ((j + 1:Nat):Int)∧y.2.1.length≤64:=by
    rcases b2 with rfl | ⟨lb,hlb,rfl⟩
    ·exact ⟨by omega,h5,fun y hy=>⟨(h6 y hy).1,Int.lt_of_lt_of_le (h6 y hy).2.1 (by omega),(h6 y hy).2.2⟩⟩
    ·refine ⟨by simp; omega,List.pairwise_append.2 ⟨h5,List.pairwise_singleton _ _,fun a ha b hb=>?_⟩,fun y hy=>?_⟩
     ·rw [List.mem_singleton.1 hb]
      exact (h6 a ha).2.1
     ·rcases List.mem_append.1 hy with hy | hy
      ·exact ⟨(h6 y hy).1,Int.lt_of_lt_of_le (h6 y hy).2.1 (by omega),(h6 y hy).2.2⟩
      ·rw [List.mem_singleton.1 hy]
       exact ⟨by show 0≤(j:Int); omega,by show (j:Int) < _; omega,hlb⟩
   obtain ⟨r2,c1,c2⟩:=ih k (j + 1) r1 (by omega) (by omega) (by omega) hr1.1 hr1.2.1 hr1.2.2
   refine ⟨r2,hu.trans (bind_step b1 ?_),c2⟩
   show f33_l3 k x (IntKind.wrap .i64 ((j:Int) + 1)) r1 = _
   rw [wS j (by omega)]
   exact c1
  ·refine ⟨r,?_,by omega,h5,fun y hy=>⟨(h6 y hy).1,Int.lt_of_lt_of_le (h6 y hy).2.1 (by omega),(h6 y hy).2.2⟩⟩
   unfold f33_l3
   rw [dF (by omega)]
   rfl
theorem labels_made (x:List (List Int)) (hx:∀ r∈x,∀ y∈r,i64 y):∃ ls,f33 x = some (ls,())∧ls.length≤24∧ls.Pairwise (fun a b=>a.1 < b.1)∧∀ y∈ls,0≤y.1∧y.1 < 24∧y.2.1.length≤64:=by
 obtain ⟨r,h1,h2⟩:=labels_loop x hx 24 (((24:Int) - (0:Int)).toNat + 1) 0 [] (by omega) (by decide) (by omega) (by simp) List.Pairwise.nil (fun y hy=>by simp at hy)
 exact ⟨r,by unfold f33; exact bind_step h1 rfl,h2⟩
theorem f82_self (a:List Nm) (ha:a.length≤1000) (hx:∀ x∈a,x.2.1.length≤1000):f82 a a = some (true,()):=by
 have key:∀ (m k j:Nat),a.length - j≤m→m < k→f82_l4 a a k (j:Int) = some (.inl ((),(),())):=by
  intro m
  induction m with
  | zero =>
   intro k j h1 h2
   obtain ⟨k,rfl⟩:∃ q,k = q + 1:=⟨k - 1,by omega⟩
   unfold f82_l4
   rw [dF (by omega)]
   rfl
  | succ m ih =>
   intro k j h1 h2
   obtain ⟨k,rfl⟩:∃ q,k = q + 1:=⟨k - 1,by omega⟩
   by_cases hj:j < a.length
   ·have hget:at_ tM a (j:Int) = a[j]:=atN tM a j hj
    have hxj:=hx _ (List.getElem_mem hj)
    have hu:=f82_l4.eq_2 a a (j:Int) k
    rw [dT (by omega),cond_true] at hu
    simp only [inRN,dT hj,cond_true,hget,wS j (by omega)] at hu
    refine hu.trans (bind_step (f30_eq a[j].2.1 a[j].2.1 (by omega)) ?_)
    rw [dF (show ¬ a[j].1 ≠ a[j].1 from fun h=>h rfl)]
    simp only [decide_true,Bool.not_true,cond_false]
    exact ih k (j + 1) (by omega) (by omega)
   ·unfold f82_l4
    rw [dF (by omega)]
    rfl
 unfold f82
 rw [dF (by simp),cond_false]
 exact bind_step (key a.length _ 0 (by omega) (by omega)) rfl
structure SmallW (w:Vw):Prop where
 d:w.2.1.length≤1000
 e:w.2.2.1.length≤1000
 l:w.2.2.2.1.length≤1000
 x:∀ y∈w.2.2.2.1,y.2.1.length≤1000
theorem f36_self (w:Vw) (h:SmallW w):f36 w w = some (true,()):=by
 obtain ⟨v,ds,es,ls,u⟩:=w
 have h1:=h.d
 have h2:=h.e
 have h3:=h.l
 have h4:=h.x
 simp only at h1 h2 h3 h4
 unfold f36
 refine bind_step (f30_eq ds ds (by omega)) ?_
 refine bind_step (edges_eq29 es es (by omega)) ?_
 show (bif (decide (v.1 = v.1) && (decide (v.2.1 = v.2.1) && true)) then _ else _) = _
 rw [vx_eq,dT (rfl:v = v),dT (rfl:ds = ds),dT (rfl:es = es)]
 exact bind_step (f82_self ls h3 h4) rfl
theorem kept_sub (id:Int) (near:List Int) (l:List Nm):(kept id near l).length≤l.length∧∀ x∈kept id near l,x∈l:=by
 unfold kept
 exact ⟨List.length_filter_le _ _,fun x hx=>(List.mem_filter.1 hx).1⟩
end Go.V.G
namespace Go.V.G
open Go.Proofs
def f6_l16_head:Ann:={ env:=[(15,.ty .bool),(16,cP 16),(17,cP 17),(19,.ty (.sl tM)),(20,TI),(21,cP 21),(23,.cst .nils),(24,.ty (.sl tI)),(25,TI),(26,.ty .bool),(27,TI)],bxs:=[(16,.var [.ty (.sl tV),.ty (.sl tE),.ty (.sl tI)]),(17,.var [.ty (.sl tV),.ty (.sl tE),.ty (.sl tI)]),(21,.var [TI,TI,.ty (.sl tI),.ty (.sl tE),.ty (.sl tM)])] }
def f6_l16_outs:List (Ex × Ann):=[((.exit 0),{ env:=[(15,.ty .bool),(16,cP 16),(17,cP 17),(19,.ty (.sl tM)),(20,TI),(21,cP 21),(23,.cst .nils),(25,TI),(26,.ty .bool)],bxs:=[(16,.var [.ty (.sl tV),.ty (.sl tE),.ty (.sl tI)]),(17,.var [.ty (.sl tV),.ty (.sl tE),.ty (.sl tI)]),(21,.var [TI,TI,.ty (.sl tI),.ty (.sl tE),.ty (.sl tM)])] })]
noncomputable def f6_l16 (t15:Bool) (t19:(List Nm)) (t20:Int) (t24:(List Int)) (t25:Int) (b16g0:(List Vx)) (b16g1:(List Ed)) (b16g2:(List Int)) (b17g0:(List Vx)) (b17g1:(List Ed)) (b17g2:(List Int)) (b21g0:Int) (b21g1:Int) (b21g2:(List Int)) (b21g3:(List Ed)) (b21g4:(List Nm)):Nat→Bool→Int→Option (outDen f6_l16_outs)
 | 0,_,_=>none
 | k + 1,t26,t27 =>
  bif (decide (t27 < (t24.length:Int))) then
   bif t26 then
    bif (inR t27 t24.length) then
     let v10:Bool:=(decide ((at_ tI t24 t27) ≠ t25))
     f6_l16 t15 t19 t20 t24 t25 b16g0 b16g1 b16g2 b17g0 b17g1 b17g2 b21g0 b21g1 b21g2 b21g3 b21g4 k v10 (IntKind.wrap .i64 (t27 + 1))
    else none
   else
    f6_l16 t15 t19 t20 t24 t25 b16g0 b16g1 b16g2 b17g0 b17g1 b17g2 b21g0 b21g1 b21g2 b21g3 b21g4 k false (IntKind.wrap .i64 (t27 + 1))
  else
   some ((t15,t19,t20,t25,t26,()),(),((b16g0,b16g1,b16g2,()),(b17g0,b17g1,b17g2,()),(b21g0,b21g1,b21g2,b21g3,b21g4,()),()))
noncomputable def f6_l16_spec:LSpec:={ head:=f6_l16_head,outs:=f6_l16_outs,fn:=fun x=>f6_l16 x.1.1 x.1.2.1 x.1.2.2.1 x.1.2.2.2.1 x.1.2.2.2.2.1 x.2.2.1.1 x.2.2.1.2.1 x.2.2.1.2.2.1 x.2.2.2.1.1 x.2.2.2.1.2.1 x.2.2.2.1.2.2.1 x.2.2.2.2.1.1 x.2.2.2.2.1.2.1 x.2.2.2.2.1.2.2.1 x.2.2.2.2.1.2.2.2.1 x.2.2.2.2.1.2.2.2.2.1 (((x.1.2.2.2.1.length:Int) - x.1.2.2.2.2.2.2.1).toNat + 1) x.1.2.2.2.2.2.1 x.1.2.2.2.2.2.2.1 }
def f6_l20_head:Ann:={ env:=[(15,.ty .bool),(16,cP 16),(17,cP 17),(19,.ty (.sl tM)),(20,TI),(21,cP 21),(23,.cst (.row 115 .whole)),(25,TI),(26,.ty .bool),(28,TI)],bxs:=[(16,.var [.ty (.sl tV),.ty (.sl tE),.ty (.sl tI)]),(17,.var [.ty (.sl tV),.ty (.sl tE),.ty (.sl tI)]),(21,.var [TI,TI,.ty (.sl tI),.ty (.sl tE),.ty (.sl tM)]),(115,.row tM false)] }
def f6_l20_outs:List (Ex × Ann):=[((.exit 2),{ env:=[(15,.ty .bool),(16,cP 16),(17,cP 17),(19,.ty (.sl tM)),(20,TI),(21,cP 21),(23,.cst (.row 115 .whole)),(26,.ty .bool)],bxs:=[(16,.var [.ty (.sl tV),.ty (.sl tE),.ty (.sl tI)]),(17,.var [.ty (.sl tV),.ty (.sl tE),.ty (.sl tI)]),(21,.var [TI,TI,.ty (.sl tI),.ty (.sl tE),.ty (.sl tM)]),(115,.row tM false)] })]
noncomputable def f6_l20 (t15:Bool) (t19:(List Nm)) (t20:Int) (t25:Int) (t26:Bool) (b16g0:(List Vx)) (b16g1:(List Ed)) (b16g2:(List Int)) (b17g0:(List Vx)) (b17g1:(List Ed)) (b17g2:(List Int)) (b21g0:Int) (b21g1:Int) (b21g2:(List Int)) (b21g3:(List Ed)) (b21g4:(List Nm)):Nat→Int→(List Nm)→Option (outDen f6_l20_outs)
 | 0,_,_=>none
 | k + 1,t28,r115 =>
  bif (decide (t28 < (t19.length:Int))) then
   bif (inR t28 t19.length) then
    let v28:Int:=(at_ tM t19 t28).1
    bif (decide (v28 ≠ t25)) then
     bif (inR t28 t19.length) then bif (decide (r115.length + ([(at_ tM t19 t28)]:List Nm).length≤appLim)) then f6_l20 t15 t19 t20 t25 t26 b16g0 b16g1 b16g2 b17g0 b17g1 b17g2 b21g0 b21g1 b21g2 b21g3 b21g4 k (IntKind.wrap .i64 (t28 + 1)) (r115++([(at_ tM t19 t28)]:List Nm)) else none else none
    else
     f6_l20 t15 t19 t20 t25 t26 b16g0 b16g1 b16g2 b17g0 b17g1 b17g2 b21g0 b21g1 b21g2 b21g3 b21g4 k (IntKind.wrap .i64 (t28 + 1)) r115
   else none
  else
   some ((t15,t19,t20,t26,()),(),((b16g0,b16g1,b16g2,()),(b17g0,b17g1,b17g2,()),(b21g0,b21g1,b21g2,b21g3,b21g4,()),r115,()))
noncomputable def f6_l20_spec:LSpec:={ thaws:=[.slot 23 115 tM],head:=f6_l20_head,outs:=f6_l20_outs,fn:=fun x=>f6_l20 x.1.1 x.1.2.1 x.1.2.2.1 x.1.2.2.2.1 x.1.2.2.2.2.1 x.2.2.1.1 x.2.2.1.2.1 x.2.2.1.2.2.1 x.2.2.2.1.1 x.2.2.2.1.2.1 x.2.2.2.1.2.2.1 x.2.2.2.2.1.1 x.2.2.2.2.1.2.1 x.2.2.2.2.1.2.2.1 x.2.2.2.2.1.2.2.2.1 x.2.2.2.2.1.2.2.2.2.1 (((x.1.2.1.length:Int) - x.1.2.2.2.2.2.1).toNat + 1) x.1.2.2.2.2.2.1 x.2.2.2.2.2.1 }
noncomputable def f6 (a0:Int) (a1:(List (List Int))) (a2:Bool) (a3:(List (List Int))) (a4:(List (List Int))) (a5:Int) (a6:Int):Option (Bool × Unit) :=
 (f10 ).bind fun y1 =>
 bif (!y1.1) then
  some (false,())
 else
  (f12 a0 a1 a2).bind fun y2 =>
  (f37 y2.1 a3).bind fun y3 =>
  (f33 a4).bind fun y4 =>
  (f18 a5 (y2.1.1.length:Int)).bind fun y5 =>
  bif (inR y5.1 y2.1.1.length) then
   let v6:Int:=(at_ tV y2.1.1 y5.1).1
   (f34 y2.1 y4.1 v6).bind fun y7 =>
   bif (decide (y7.2.1 ≠ (0:Int))) then
    some (false,())
   else
    (pf31 v6 y7.1.2.2.1).bind fun y8 =>
    (f18 a6 (24:Int)).bind fun y9 =>
    (f6_l16 y1.1 y4.1 v6 y8.1 y9.1 y2.1.1 y2.1.2.1 y2.1.2.2.1 y3.1.1 y3.1.2.1 y3.1.2.2.1 y7.1.1.1 y7.1.1.2.1 y7.1.2.1 y7.1.2.2.1 y7.1.2.2.2.1 (((y8.1.length:Int) - (0:Int)).toNat + 1) (decide (y9.1 ≠ v6)) (0:Int)).bind fun o11 =>
    let u12:Bool:=o11.1.1
    let u13:(List Nm):=o11.1.2.1
    let u14:Int:=o11.1.2.2.1
    let u15:Int:=o11.1.2.2.2.1
    let u16:Bool:=o11.1.2.2.2.2.1
    let u17:(List Vx):=o11.2.2.1.1
    let u18:(List Ed):=o11.2.2.1.2.1
    let u19:(List Int):=o11.2.2.1.2.2.1
    let u20:(List Vx):=o11.2.2.2.1.1
    let u21:(List Ed):=o11.2.2.2.1.2.1
    let u22:(List Int):=o11.2.2.2.1.2.2.1
    let u23:Int:=o11.2.2.2.2.1.1
    let u24:Int:=o11.2.2.2.2.1.2.1
    let u25:(List Int):=o11.2.2.2.2.1.2.2.1
    let u26:(List Ed):=o11.2.2.2.2.1.2.2.2.1
    let u27:(List Nm):=o11.2.2.2.2.1.2.2.2.2.1
    (f6_l20 u12 u13 u14 u15 u16 u17 u18 u19 u20 u21 u22 u23 u24 u25 u26 u27 (((u13.length:Int) - (0:Int)).toNat + 1) (0:Int) []).bind fun o29 =>
    let u30:Bool:=o29.1.1
    let u31:(List Nm):=o29.1.2.1
    let u32:Int:=o29.1.2.2.1
    let u33:Bool:=o29.1.2.2.2.1
    let u34:(List Vx):=o29.2.2.1.1
    let u35:(List Ed):=o29.2.2.1.2.1
    let u36:(List Int):=o29.2.2.1.2.2.1
    let u37:(List Vx):=o29.2.2.2.1.1
    let u38:(List Ed):=o29.2.2.2.1.2.1
    let u39:(List Int):=o29.2.2.2.1.2.2.1
    let u40:Int:=o29.2.2.2.2.1.1
    let u41:Int:=o29.2.2.2.2.1.2.1
    let u42:(List Int):=o29.2.2.2.2.1.2.2.1
    let u43:(List Ed):=o29.2.2.2.2.1.2.2.2.1
    let u44:(List Nm):=o29.2.2.2.2.1.2.2.2.2.1
    let u45:(List Nm):=o29.2.2.2.2.2.1
    (f34 (u34,(u35,(u36,()))) u45 u32).bind fun y46 =>
    bif (decide (y46.2.1 ≠ (0:Int))) then
     some (false,())
    else
     bif u33 then
      (f36 ((u40,(u41,())),(u42,(u43,(u44,())))) y46.1).bind fun y47 =>
      bif (!y47.1) then
       some (false,())
      else
       (f19 (u34,(u35,(u36,()))) u32).bind fun y48 =>
       (f19 (u37,(u38,(u39,()))) u32).bind fun y49 =>
       (f34 (u37,(u38,(u39,()))) u31 u32).bind fun y50 =>
       bif (decide (y48.2.1 = (0:Int))) then
        bif (decide (y49.2.1 = (0:Int))) then
         bif (decide (y48.1 = y49.1)) then
          (f30 u36 u39).bind fun y51 =>
          bif u30 then
           bif (!y51.1) then
            some (true,())
           else
            bif (decide (y50.2.1 = (0:Int))) then
             (f36 ((u40,(u41,())),(u42,(u43,(u44,())))) y50.1).bind fun y52 =>
             some (y52.1,())
            else
             some (false,())
          else
           some (false,())
         else
          bif u30 then
           some (true,())
          else
           some (false,())
        else
         bif u30 then
          some (true,())
         else
          some (false,())
       else
        bif u30 then
         some (true,())
        else
         some (false,())
     else
      (f19 (u34,(u35,(u36,()))) u32).bind fun y53 =>
      (f19 (u37,(u38,(u39,()))) u32).bind fun y54 =>
      (f34 (u37,(u38,(u39,()))) u31 u32).bind fun y55 =>
      bif (decide (y53.2.1 = (0:Int))) then
       bif (decide (y54.2.1 = (0:Int))) then
        bif (decide (y53.1 = y54.1)) then
         (f30 u36 u39).bind fun y56 =>
         bif u30 then
          bif (!y56.1) then
           some (true,())
          else
           bif (decide (y55.2.1 = (0:Int))) then
            (f36 ((u40,(u41,())),(u42,(u43,(u44,())))) y55.1).bind fun y57 =>
            some (y57.1,())
           else
            some (false,())
         else
          some (false,())
        else
         bif u30 then
          some (true,())
         else
          some (false,())
       else
        bif u30 then
         some (true,())
        else
         some (false,())
      else
       bif u30 then
        some (true,())
       else
        some (false,())
  else none
noncomputable def f6_spec:PSpec:={ args:=[tI,(.sl (.arr 5 tI)),.bool,(.sl (.arr 6 tI)),(.sl (.arr 6 tI)),tI,tI],res:=[.bool],fn:=fun x=>f6 x.1 x.2.1 x.2.2.1 x.2.2.2.1 x.2.2.2.2.1 x.2.2.2.2.2.1 x.2.2.2.2.2.2.1 }
noncomputable def f6_code:Code:=Tryz.f6.body.getD .skip
noncomputable def f6_env:Env0:={ C:=cfg,P:=[(10,f10_spec),(12,f12_spec),(18,f18_spec),(19,f19_spec),(30,f30_spec),(31,pf31_spec),(33,f33_spec),(34,f34_spec),(36,f36_spec),(37,f37_spec)],L:=[(⟨12,0,6,16⟩,f6_l16_spec),(⟨12,0,6,20⟩,f6_l20_spec)],F:=[(6,Tryz.f6)] }
theorem f6_l16_ok:LoopOK f6_env 12 6 0 (loopAt f6_code 16) f6_l16_spec :=
 loopOK_of (by kernel_rfl) (fun n x=>f6_l16 x.1.1 x.1.2.1 x.1.2.2.1 x.1.2.2.2.1 x.1.2.2.2.2.1 x.2.2.1.1 x.2.2.1.2.1 x.2.2.1.2.2.1 x.2.2.2.1.1 x.2.2.2.1.2.1 x.2.2.2.1.2.2.1 x.2.2.2.2.1.1 x.2.2.2.2.1.2.1 x.2.2.2.2.1.2.2.1 x.2.2.2.2.1.2.2.2.1 x.2.2.2.2.1.2.2.2.2.1 n x.1.2.2.2.2.2.1 x.1.2.2.2.2.2.2.1) (fun x o h=>⟨_,h⟩) (fun x=>by kernel_rfl) (fun n x=>by kernel_rfl)
theorem f6_l20_ok:LoopOK f6_env 12 6 0 (loopAt f6_code 20) f6_l20_spec :=
 loopOK_of (by kernel_rfl) (fun n x=>f6_l20 x.1.1 x.1.2.1 x.1.2.2.1 x.1.2.2.2.1 x.1.2.2.2.2.1 x.2.2.1.1 x.2.2.1.2.1 x.2.2.1.2.2.1 x.2.2.2.1.1 x.2.2.2.1.2.1 x.2.2.2.1.2.2.1 x.2.2.2.2.1.1 x.2.2.2.2.1.2.1 x.2.2.2.2.1.2.2.1 x.2.2.2.2.1.2.2.2.1 x.2.2.2.2.1.2.2.2.2.1 n x.1.2.2.2.2.2.1 x.2.2.2.2.2.1) (fun x o h=>⟨_,h⟩) (fun x=>by kernel_rfl) (fun n x=>by kernel_rfl)
theorem f6_run (x:tysDen (f6_spec).args):runF f6_env 6 Tryz.f6 f6_code (f6_spec).args (f6_spec).res x = f6_spec.fn x:=by kernel_rfl
theorem f6_envOK:EnvOK Tryz.prog f6_env:=envOK_of cds (by kernel_rfl) cfg_ok ⟨⟨f10_pure,f10_enter⟩,⟨f12_pure,f12_enter⟩,⟨f18_pure,f18_enter⟩,⟨f19_pure,f19_enter⟩,⟨f30_pure,f30_enter⟩,⟨pf31_pure,pf31_enter⟩,⟨f33_pure,f33_enter⟩,⟨f34_pure,f34_enter⟩,⟨f36_pure,f36_enter⟩,⟨f37_pure,f37_enter⟩,trivial⟩ trivial ⟨⟨Tryz.func6,by kernel_rfl⟩,trivial⟩ ⟨⟨Tryz.f6,f6_code,rfl,rfl,f6_l16_ok⟩,⟨Tryz.f6,f6_code,rfl,rfl,f6_l20_ok⟩,trivial⟩ trivial trivial
theorem f6_pure:PureOK Tryz.prog cfg 6 f6_spec:=pure_of_run f6_envOK (fn:=Tryz.f6) (c:=f6_code) rfl rfl f6_spec (fun x _ h=>(f6_run x).trans h)
end Go.V.G
namespace Go.V.G
open Go.Proofs
theorem labs_iff:∀ (l:List Nm) (p:Int),labs p l = true ↔ (∀ x∈l,p < x.1∧x.1 < 24∧x.2.1.length≤64)∧l.Pairwise (fun a b=>a.1 < b.1)
 | [],p=>by simp [labs]
 | x :: l,p=>by
  rw [labs]
  simp only [Bool.and_eq_true,decide_eq_true_eq,labs_iff l x.1,List.pairwise_cons,List.mem_cons]
  constructor
  ·rintro ⟨⟨⟨h1,h2⟩,h3⟩,h4,h5⟩
   refine ⟨?_,fun y hy=>(h4 y hy).1,h5⟩
   rintro y (rfl | hy)
   ·exact ⟨h1,h2,h3⟩
   ·have:=h4 y hy
    exact ⟨by omega,this.2⟩
  ·rintro ⟨h1,h2,h3⟩
   have:=h1 x (.inl rfl)
   exact ⟨⟨⟨this.1,this.2.1⟩,this.2.2⟩,fun y hy=>⟨h2 y hy,(h1 y (.inr hy)).2⟩,h3⟩
theorem l6_16 (t15:Bool) (t19:List Nm) (t20:Int) (near:List Int) (t25:Int) (a0:List Vx) (a1:List Ed) (a2:List Int) (b0:List Vx) (b1:List Ed) (b2:List Int) (c0 c1:Int) (c2:List Int) (c3:List Ed) (c4:List Nm) (hl:near.length≤100000) :
  ∀ (m k j:Nat) (b:Bool),near.length - j≤m→m < k→∃ b',f6_l16 t15 t19 t20 near t25 a0 a1 a2 b0 b1 b2 c0 c1 c2 c3 c4 k b (j:Int) = some ((t15,t19,t20,t25,b',()),(),((a0,a1,a2,()),(b0,b1,b2,()),(c0,c1,c2,c3,c4,()),()))∧(b' = true→b = true∧∀ x∈near.drop j,x ≠ t25):=by
 intro m
 induction m with
 | zero =>
  intro k j b h1 h2
  obtain ⟨k,rfl⟩:∃ q,k = q + 1:=⟨k - 1,by omega⟩
  refine ⟨b,?_,fun h=>⟨h,fun x hx=>by rw [List.drop_of_length_le (by omega)] at hx; cases hx⟩⟩
  unfold f6_l16
  rw [dF (by omega)]
  rfl
 | succ m ih =>
  intro k j b h1 h2
  obtain ⟨k,rfl⟩:∃ q,k = q + 1:=⟨k - 1,by omega⟩
  by_cases hj:j < near.length
  ·have hget:at_ tI near (j:Int) = near[j]:=atN tI near j hj
   have e1:decide ((j:Int) < (near.length:Int)) = true:=dT (by omega)
   have e2:inR (j:Int) near.length = true:=by rw [inRN]; exact dT hj
   cases b with
   | true =>
    obtain ⟨b',q1,q2⟩:=ih k (j + 1) (decide (near[j] ≠ t25)) (by omega) (by omega)
    refine ⟨b',?_,fun h=>⟨rfl,fun x hx=>?_⟩⟩
    ·unfold f6_l16
     simp only [e1,cond_true,e2,hget,wS j (by omega)]
     exact q1
    ·rw [List.drop_eq_getElem_cons hj] at hx
     rcases List.mem_cons.1 hx with rfl | hx
     ·exact of_decide_eq_true (q2 h).1
     ·exact (q2 h).2 x hx
   | false =>
    obtain ⟨b',q1,q2⟩:=ih k (j + 1) false (by omega) (by omega)
    refine ⟨b',?_,fun h=>by cases (q2 h).1⟩
    unfold f6_l16
    simp only [e1,cond_true,cond_false,wS j (by omega)]
    exact q1
  ·refine ⟨b,?_,fun h=>⟨h,fun x hx=>by rw [List.drop_of_length_le (by omega)] at hx; cases hx⟩⟩
   unfold f6_l16
   rw [dF (by omega)]
   rfl
theorem l6_20 (t15:Bool) (ls:List Nm) (t20 t25:Int) (t26:Bool) (a0:List Vx) (a1:List Ed) (a2:List Int) (b0:List Vx) (b1:List Ed) (b2:List Int) (c0 c1:Int) (c2:List Int) (c3:List Ed) (c4:List Nm) (hl:ls.length≤1000) :
  ∀ (m k j:Nat) (r:List Nm),ls.length - j≤m→m < k→j≤ls.length→r.length≤j→f6_l20 t15 ls t20 t25 t26 a0 a1 a2 b0 b1 b2 c0 c1 c2 c3 c4 k (j:Int) r = some ((t15,ls,t20,t26,()),(),((a0,a1,a2,()),(b0,b1,b2,()),(c0,c1,c2,c3,c4,()),r++(ls.drop j).filter (fun x=>decide (x.1 ≠ t25)),())):=by
 intro m
 induction m with
 | zero =>
  intro k j r h1 h2 h3 h4
  obtain ⟨k,rfl⟩:∃ q,k = q + 1:=⟨k - 1,by omega⟩
  unfold f6_l20
  rw [dF (by omega),List.drop_of_length_le (by omega),List.filter_nil,List.append_nil]
  rfl
 | succ m ih =>
  intro k j r h1 h2 h3 h4
  obtain ⟨k,rfl⟩:∃ q,k = q + 1:=⟨k - 1,by omega⟩
  by_cases hj:j < ls.length
  ·have hget:at_ tM ls (j:Int) = ls[j]:=atN tM ls j hj
   have e1:decide ((j:Int) < (ls.length:Int)) = true:=dT (by omega)
   have e2:inR (j:Int) ls.length = true:=by rw [inRN]; exact dT hj
   have hap:∀ x:Nm,decide (r.length + ([x]:List Nm).length≤appLim) = true:=fun x=>appLe _ (by simp only [List.length_cons,List.length_nil]; omega)
   rw [List.drop_eq_getElem_cons hj]
   by_cases c:ls[j].1 ≠ t25
   ·have:=ih k (j + 1) (r++[ls[j]]) (by omega) (by omega) (by omega) (by simp only [List.length_append,List.length_cons,List.length_nil]; omega)
    rw [List.filter_cons_of_pos (by simpa using c)]
    rw [List.append_assoc] at this
    unfold f6_l20
    simp only [e1,cond_true,e2,hget,dT c,hap,wS j (by omega)]
    exact this
   ·have:=ih k (j + 1) r (by omega) (by omega) (by omega) (by omega)
    rw [List.filter_cons_of_neg (by simpa using c)]
    unfold f6_l20
    simp only [e1,cond_true,e2,hget,dF c,cond_false,wS j (by omega)]
    exact this
  ·unfold f6_l20
   rw [dF (by omega),List.drop_of_length_le (by omega),List.filter_nil,List.append_nil]
   rfl
theorem kept_far (id k:Int) (near:List Int) (ls:List Nm) (h1:k ≠ id) (h2:∀ x∈near,x ≠ k):kept id near (ls.filter (fun x=>decide (x.1 ≠ k))) = kept id near ls:=by
 unfold kept
 rw [List.filter_filter]
 refine List.filter_congr fun x _=>?_
 by_cases c:x.1 = k
 ·have d1:¬ x.1 = id:=fun e=>h1 (by rw [← c,e])
  have d2:¬ x.1∈near:=fun e=>h2 _ e c
  simp [d1,d2]
 ·simp [c]
set_option maxHeartbeats 1000000 in
theorem f6_eq (n:Int) (l:List (List Int)) (wide:Bool) (x y:List (List Int)) (a b:Int) (hn:i64 n) (hl:∀ r∈l,∀ q∈r,i64 q) (hll:l.length≤9223372036854775807) (hx:∀ r∈x,∀ q∈r,i64 q) (hx6:∀ r∈x,r.length≤1000) (hxl:x.length≤9223372036854775807)
  (hy:∀ r∈y,∀ q∈r,i64 q) (ha:i64 a) (hb:i64 b):f6 n l wide x y a b = some (true,()):=by
 obtain ⟨vs,es,ds,h12,hv,hpos⟩:=made_valid n l wide hn hl hll
 have hok:=ok_of _ _ _ hv
 obtain ⟨vs',es',ds',r',h37,hok'⟩:=hist_ok x hx hx6 hxl hok
 have hv':=valid_ok hok'
 have n1:=hok.nv
 have n2:=hok.ne
 have n3:=hok.dl
 have n1':=hok'.nv
 have n2':=hok'.ne
 have n3':=hok'.dl
 obtain ⟨ls,h33,q1,q2,q3⟩:=labels_made y hy
 have hlabs:labs (-1) ls = true:=(labs_iff ls (-1)).2 ⟨fun z hz=>⟨by have:=(q3 z hz).1; omega,(q3 z hz).2.1,(q3 z hz).2.2⟩,q2⟩
 have hlx:∀ z∈ls,z.2.1.length≤1000:=fun z hz=>by have:=(q3 z hz).2.2; omega
 unfold f6
 refine bind_step sane_eq ?_
 refine bind_step h12 ?_
 refine bind_step h37 ?_
 refine bind_step h33 ?_
 refine bind_step (f18_eq a (vs.length:Int) ha (by omega)) ?_
 have hr:=pkV_rng a (vs.length:Int) (by omega)
 obtain ⟨i,hi⟩:∃ i:Nat,pkV a (vs.length:Int) = (i:Int):=⟨(pkV a (vs.length:Int)).toNat,by omega⟩
 rw [hi] at hr
 have hil:i < vs.length:=by omega
 simp only [hi,inRN,dT hil,cond_true]
 have hget:at_ tV vs (i:Int) = vs[i]:=atN tV vs i hil
 rw [hget]
 generalize hid:vs[i].1 = id
 have hv0:vs[i]∈vs:=List.getElem_mem hil
 have hhas:hasV vs id = true:=hasV_iff.2 ⟨_,hv0,hid⟩
 have same_v:∀ u∈vs,u.1 = id→u = vs[i]:=fun u hu e=>vid_inj hok.av hu hv0 (by rw [e,hid])
 have views:∀ lb:List Nm,lb.length≤1000→(∀ z∈lb,z.2.1.length≤1000)→labs (-1) lb = true→f34 (vs,es,ds,()) lb id = some ((vs[i],ds,atE es id,kept id (nb id (atE es id)) lb,()),0,()):=by
  intro lb h1 h2 h3
  rcases view_p vs es ds lb id (by omega) (by omega) (by omega) h1 h2 with ⟨_,_,v,hvm,hvi,hw⟩ | ⟨hf,_⟩
  ·rw [same_v v hvm hvi] at hw
   exact hw
  ·rw [hv,hhas,h3] at hf
   cases hf
 have hw:=views ls (by omega) hlx hlabs
 have hpage:f19 (vs,es,ds,()) id = some (encs (pageN vs[i] (atE es id)),0,()):=by
  rcases page_p vs es ds id (by omega) (by omega) (by omega) with ⟨_,v,hvm,hvi,hw⟩ | ⟨hf,_⟩
  ·rw [same_v v hvm hvi] at hw
   exact hw
  ·rw [hv,hhas] at hf
   cases hf
 have hgood:good vs[i] (atE es id) = true:=by
  have:=good_of hok hv0
  rw [hid] at this
  exact this
 refine bind_step hw ?_
 simp only [ne_eq,not_true_eq_false,decide_false,cond_false]
 have hat:=atE_len es id
 refine bind_step (pf31_eq id (atE es id) (by omega)) ?_
 refine bind_step (f18_eq b 24 hb (by omega)) ?_
 generalize pkV b 24 = k
 have hnb:=nb_len id (atE es id)
 obtain ⟨far,g1,g2⟩:=l6_16 true ls id (nb id (atE es id)) k vs es ds vs' es' ds' vs[i].1 vs[i].2.1 ds (atE es id) (kept id (nb id (atE es id)) ls) (by omega) (nb id (atE es id)).length ((((nb id (atE es id)).length:Int) - (0:Int)).toNat + 1) 0 (decide (k ≠ id)) (by omega) (by omega)
 refine bind_step g1 ?_
 have g3:=l6_20 true ls id k far vs es ds vs' es' ds' vs[i].1 vs[i].2.1 ds (atE es id) (kept id (nb id (atE es id)) ls) (by omega) ls.length (((ls.length:Int) - (0:Int)).toNat + 1) 0 [] (by omega) (by omega) (by omega) (by simp)
 rw [List.drop_zero,List.nil_append] at g3
 refine bind_step g3 ?_
 have hsub:(ls.filter (fun x=>decide (x.1 ≠ k))).Sublist ls:=List.filter_sublist
 have hlabs2:labs (-1) (ls.filter (fun x=>decide (x.1 ≠ k))) = true:=(labs_iff _ (-1)).2 ⟨fun z hz=>((labs_iff ls (-1)).1 hlabs).1 z (hsub.subset hz),q2.sublist hsub⟩
 refine bind_step (views (ls.filter (fun x=>decide (x.1 ≠ k))) (Nat.le_trans hsub.length_le (by omega)) (fun z hz=>hlx z (hsub.subset hz)) hlabs2) ?_
 simp only [not_true_eq_false,decide_false,cond_false]
 rw [List.drop_zero] at g2
 cases far with
 | true =>
  have g4:=g2 rfl
  have hk:=kept_far id k (nb id (atE es id)) ls (of_decide_eq_true g4.1) g4.2
  simp only [cond_true,hk]
  refine bind_step (f36_self (vs[i],ds,atE es id,kept id (nb id (atE es id)) ls,()) ⟨by show ds.length≤_; omega,by show (atE es id).length≤_; omega,by show (kept id (nb id (atE es id)) ls).length≤_; have:=(kept_sub id (nb id (atE es id)) ls).1; omega,fun z hz=>hlx z ((kept_sub id (nb id (atE es id)) ls).2 z hz)⟩) ?_
  simp only [Bool.not_true,cond_false]
  refine bind_step hpage ?_
  rcases page_p vs' es' ds' id (by omega) (by omega) (by omega) with ⟨_,v',hvm',hvi',hp'⟩ | ⟨hn',hp'⟩
  ·refine bind_step hp' ?_
   rcases view_p vs' es' ds' ls id (by omega) (by omega) (by omega) (by omega) hlx with ⟨_,_,v'',hvm'',hvi'',hw'⟩ | ⟨hf,_⟩
   ·have ev:v'' = v':=vid_inj hok'.av hvm'' hvm' (by rw [hvi'',hvi'])
    subst ev
    refine bind_step hw' ?_
    simp only [eq_self,decide_true,cond_true]
    by_cases c:encs (pageN vs[i] (atE es id)) = encs (pageN v'' (atE es' id))
    ·have hgood':good v'' (atE es' id) = true:=by
      have:=good_of hok' hvm''
      rw [hvi''] at this
      exact this
     have p1:=(parse_iff (encs (pageN vs[i] (atE es id))) vs[i] (atE es id)).2 ⟨rfl,hgood⟩
     have p2:=(parse_iff (encs (pageN vs[i] (atE es id))) v'' (atE es' id)).2 ⟨c,hgood'⟩
     rw [p1] at p2
     simp only [Option.some.injEq,Prod.mk.injEq] at p2
     obtain ⟨e1,e2⟩:=p2
     simp only [dT c,cond_true]
     refine bind_step (f30_eq ds ds' (by omega)) ?_
     by_cases d:ds = ds'
     ·subst d
      simp only [eq_self,decide_true,Bool.not_true,cond_false,cond_true]
      refine bind_step (a:=(true,())) ?_ rfl
      rw [← e1,← e2]
      exact f36_self (vs[i],ds,atE es id,kept id (nb id (atE es id)) ls,()) ⟨by show ds.length≤_; omega,by show (atE es id).length≤_; omega,by show (kept id (nb id (atE es id)) ls).length≤_; have:=(kept_sub id (nb id (atE es id)) ls).1; omega,fun z hz=>hlx z ((kept_sub id (nb id (atE es id)) ls).2 z hz)⟩
     ·simp only [dF d,Bool.not_false,cond_true]
    ·simp only [dF c,cond_false]
   ·exfalso
    rw [hv',hasV_iff.2 ⟨v',hvm',hvi'⟩,hlabs] at hf
    cases hf
  ·refine bind_step hp' ?_
   rcases view_p vs' es' ds' ls id (by omega) (by omega) (by omega) (by omega) hlx with ⟨_,_,v'',hvm'',hvi'',hw'⟩ | ⟨_,hw'⟩
   ·exfalso
    rw [hv',hasV_iff.2 ⟨v'',hvm'',hvi''⟩] at hn'
    cases hn'
   ·refine bind_step hw' ?_
    rfl
 | false =>
  simp only [cond_false]
  refine bind_step hpage ?_
  rcases page_p vs' es' ds' id (by omega) (by omega) (by omega) with ⟨_,v',hvm',hvi',hp'⟩ | ⟨hn',hp'⟩
  ·refine bind_step hp' ?_
   rcases view_p vs' es' ds' ls id (by omega) (by omega) (by omega) (by omega) hlx with ⟨_,_,v'',hvm'',hvi'',hw'⟩ | ⟨hf,_⟩
   ·have ev:v'' = v':=vid_inj hok'.av hvm'' hvm' (by rw [hvi'',hvi'])
    subst ev
    refine bind_step hw' ?_
    simp only [eq_self,decide_true,cond_true]
    by_cases c:encs (pageN vs[i] (atE es id)) = encs (pageN v'' (atE es' id))
    ·have hgood':good v'' (atE es' id) = true:=by
      have:=good_of hok' hvm''
      rw [hvi''] at this
      exact this
     have p1:=(parse_iff (encs (pageN vs[i] (atE es id))) vs[i] (atE es id)).2 ⟨rfl,hgood⟩
     have p2:=(parse_iff (encs (pageN vs[i] (atE es id))) v'' (atE es' id)).2 ⟨c,hgood'⟩
     rw [p1] at p2
     simp only [Option.some.injEq,Prod.mk.injEq] at p2
     obtain ⟨e1,e2⟩:=p2
     simp only [dT c,cond_true]
     refine bind_step (f30_eq ds ds' (by omega)) ?_
     by_cases d:ds = ds'
     ·subst d
      simp only [eq_self,decide_true,Bool.not_true,cond_false,cond_true]
      refine bind_step (a:=(true,())) ?_ rfl
      rw [← e1,← e2]
      exact f36_self (vs[i],ds,atE es id,kept id (nb id (atE es id)) ls,()) ⟨by show ds.length≤_; omega,by show (atE es id).length≤_; omega,by show (kept id (nb id (atE es id)) ls).length≤_; have:=(kept_sub id (nb id (atE es id)) ls).1; omega,fun z hz=>hlx z ((kept_sub id (nb id (atE es id)) ls).2 z hz)⟩
     ·simp only [dF d,Bool.not_false,cond_true]
    ·simp only [dF c,cond_false]
   ·exfalso
    rw [hv',hasV_iff.2 ⟨v',hvm',hvi'⟩,hlabs] at hf
    cases hf
  ·refine bind_step hp' ?_
   rcases view_p vs' es' ds' ls id (by omega) (by omega) (by omega) (by omega) hlx with ⟨_,_,v'',hvm'',hvi'',hw'⟩ | ⟨_,hw'⟩
   ·exfalso
    rw [hv',hasV_iff.2 ⟨v'',hvm'',hvi''⟩] at hn'
    cases hn'
   ·refine bind_step hw' ?_
    rfl
theorem f6_all (x:tysDen f6_spec.args) (h:tysOk f6_spec.args x):f6_spec.fn x = some (true,()):=by
 obtain ⟨n,l,wide,y,z,a,b,u⟩:=x
 obtain ⟨h1,h2,_,h3,h4,h5,h6,_⟩:=h
 have h6':∀ r∈y,r.length≤1000:=fun r hr=>by
  have:=(h3.2 r hr).1
  omega
 exact f6_eq n l wide y z a b (i64_of h1) (rows_of h2).2 (rows_of h2).1 (rows_of h3).2 h6' (rows_of h3).1 (rows_of h4).2 (i64_of h5) (i64_of h6)
end Go.V.G
