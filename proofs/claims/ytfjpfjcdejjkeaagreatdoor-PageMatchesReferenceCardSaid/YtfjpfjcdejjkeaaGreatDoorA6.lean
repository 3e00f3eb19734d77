/- Part of the proof. -/
import Derived.KernelRfl
import Derived.Test.YtfjpfjcdejjkeaaGreatDoorA5
set_option linter.all false
set_option linter.unusedVariables false
set_option linter.unusedSectionVars false
set_option linter.unusedSimpArgs false
namespace Go.V.G
open Go.Proofs
def i64 (x:Int):Prop:=-9223372036854775808 ≤ x ∧ x ≤ 9223372036854775807
theorem wrap_rng (x:Int):i64 (IntKind.wrap .i64 x):=by
 unfold i64
 simp [IntKind.wrap,IntKind.bits,IntKind.signed]
 omega
def pkV (c n:Int):Int:=Int.tmod (if c < 0 then -(c + 1) else c) n
theorem pkV_rng (c n:Int) (hn:0 < n):0 ≤ pkV c n ∧ pkV c n < n:=by
 unfold pkV
 split
 ·rw [Int.tmod_eq_emod_of_nonneg (by omega)]
  exact ⟨Int.emod_nonneg _ (by omega),Int.emod_lt_of_pos _ hn⟩
 ·rw [Int.tmod_eq_emod_of_nonneg (by omega)]
  exact ⟨Int.emod_nonneg _ (by omega),Int.emod_lt_of_pos _ hn⟩
theorem f45_eq (c n:Int) (hc:i64 c) (hn:0 < n):f45 c n = some (pkV c n,()):=by
 unfold i64 at hc
 unfold f45 pkV
 by_cases h:c < 0
 ·rw [dT h,if_pos h,dT (show n ≠ 0 by omega)]
  simp only [cond_true]
  rw [wrap_i64 (c + 1) (by omega) (by omega),wrap_i64 (0 - (c + 1)) (by omega) (by omega)]
  rw [show 0 - (c + 1) = -(c + 1) by omega]
 ·rw [dF h,if_neg h,dT (show n ≠ 0 by omega)]
  rfl
theorem f18_eq (c n:Int) (hc:i64 c) (hn:0 < n):f18 c n = some (pkV c n,()):=by
 unfold i64 at hc
 unfold f18 pkV
 by_cases h:c < 0
 ·rw [dT h,if_pos h,dT (show n ≠ 0 by omega)]
  simp only [cond_true]
  rw [wrap_i64 (c + 1) (by omega) (by omega),wrap_i64 (0 - (c + 1)) (by omega) (by omega)]
  rw [show 0 - (c + 1) = -(c + 1) by omega]
 ·rw [dF h,if_neg h,dT (show n ≠ 0 by omega)]
  rfl
def idf (n:Int) (wide:Bool) (j:Nat):Int:=if wide = false ∧ pkV (IntKind.wrap .i64 (Int.tdiv n 8)) 2 = 1 then (j:Int) + ((j / 2:Nat):Int) else (j:Int)
theorem idf_lt (n:Int) (wide:Bool) (j:Nat):idf n wide j < idf n wide (j + 1):=by
 unfold idf
 split <;> omega
theorem made_verts (n:Int) (l:List (List Int)) (wide:Bool) (many:Nat) (hm:many ≤ 18 ∧ (wide = false → many ≤ 8)):∀ (m k j:Nat) (acc:List Vx),many - j ≤ m → m < k → j ≤ many → acc.length = j → acc.Pairwise (fun a b=>a.1 < b.1) → (∀ v ∈ acc,v.1 < idf n wide j ∧ okV v = true) →
  ∃ vs,f12_l6 n l wide (many:Int) k (j:Int) acc = some ((n,l,(many:Int),()),(),((),(),vs,())) ∧ vs.length = many ∧ vs.Pairwise (fun a b=>a.1 < b.1) ∧ ∀ v ∈ vs,okV v = true:=by
 intro m
 induction m with
 | zero =>
  intro k j acc h1 h2 h3 h4 h5 h6
  obtain ⟨k,rfl⟩:∃ q,k = q + 1:=⟨k - 1,by omega⟩
  refine ⟨acc,?_,by omega,h5,fun v hv=>(h6 v hv).2⟩
  unfold f12_l6
  rw [dF (by omega)]
  rfl
 | succ m ih =>
  intro k j acc h1 h2 h3 h4 h5 h6
  obtain ⟨k,rfl⟩:∃ q,k = q + 1:=⟨k - 1,by omega⟩
  by_cases hj:j < many
  ·have hu:=f12_l6.eq_2 n l wide (many:Int) (j:Int) acc k
   rw [dT (by omega),cond_true] at hu
   have step:∀ (s:Int),0 ≤ s → s < 4 → f12_l6 n l wide (many:Int) (k + 1) (j:Int) acc = (bif (decide (acc.length + ([(idf n wide j,s,())]:List Vx).length ≤ appLim)) then f12_l6 n l wide (many:Int) k (IntKind.wrap .i64 ((j:Int) + (1:Int))) (acc ++ ([(idf n wide j,s,())]:List Vx)) else none) →
     ∃ vs,f12_l6 n l wide (many:Int) (k + 1) (j:Int) acc = some ((n,l,(many:Int),()),(),((),(),vs,())) ∧ vs.length = many ∧ vs.Pairwise (fun a b=>a.1 < b.1) ∧ ∀ v ∈ vs,okV v = true:=by
    intro s hs1 hs2 he
    rw [appOk _ _ (by simp; omega),cond_true,wS j (by omega)] at he
    obtain ⟨vs,b1,b2⟩:=ih k (j + 1) (acc ++ [(idf n wide j,s,())]) (by omega) (by omega) (by omega) (by simp; omega) (by
     refine List.pairwise_append.2 ⟨h5,List.pairwise_singleton _ _,fun a ha b hb=>?_⟩
     rw [List.mem_singleton.1 hb]
     exact (h6 a ha).1) (by
     intro v hv
     have hlt:=idf_lt n wide j
     rcases List.mem_append.1 hv with hv | hv
     ·exact ⟨by have:=(h6 v hv).1; omega,(h6 v hv).2⟩
     ·rw [List.mem_singleton.1 hv]
      refine ⟨hlt,?_⟩
      unfold okV
      have hi:0 ≤ idf n wide j ∧ idf n wide j ≤ 23:=by
       unfold idf
       split
       ·rename_i hc
        have:=hm.2 hc.1
        omega
       ·omega
      simp only [Bool.and_eq_true,decide_eq_true_eq]
      omega)
    exact ⟨vs,he.trans b1,b2⟩
   have r3:=pkV_rng (IntKind.wrap .i64 (Int.tdiv n 64)) 3 (by omega)
   have side:∀ x:Int,f45 (IntKind.wrap .i64 x) 4 = some (pkV (IntKind.wrap .i64 x) 4,()):=fun x=>f45_eq _ 4 (wrap_rng _) (by omega)
   have p3:f45 (IntKind.wrap .i64 (Int.tdiv n 64)) 3 = _:=f45_eq _ 3 (wrap_rng _) (by omega)
   have p2:f45 (IntKind.wrap .i64 (Int.tdiv n 8)) 2 = _:=f45_eq _ 2 (wrap_rng _) (by omega)
   cases wide with
   | true =>
    have hi:idf n true j = (j:Int):=by unfold idf; rw [if_neg (fun h=>by cases h.1)]
    rw [← hi] at hu
    refine step (pkV (IntKind.wrap .i64 (IntKind.wrap .i64 (Int.tdiv n 16) + IntKind.wrap .i64 (idf n true j * IntKind.wrap .i64 (1 + pkV (IntKind.wrap .i64 (Int.tdiv n 64)) 3)))) 4) (pkV_rng _ 4 (by omega)).1 (pkV_rng _ 4 (by omega)).2 ?_
    rw [hi] at hu ⊢
    exact hu.trans (bind_step p3 (bind_step (side _) rfl))
   | false =>
    by_cases hc:pkV (IntKind.wrap .i64 (Int.tdiv n 8)) 2 = 1
    ·have hi:idf n false j = (j:Int) + ((j / 2:Nat):Int):=by unfold idf; rw [if_pos ⟨rfl,hc⟩]
     have w1:IntKind.wrap .i64 (Int.tdiv (j:Int) 2) = ((j / 2:Nat):Int):=by
      have:Int.tdiv (j:Int) 2 = ((j / 2:Nat):Int):=rfl
      rw [this,wrap_i64 _ (by omega) (by omega)]
     have w2:IntKind.wrap .i64 ((j:Int) + ((j / 2:Nat):Int)) = (j:Int) + ((j / 2:Nat):Int):=wrap_i64 _ (by omega) (by omega)
     refine step (pkV (IntKind.wrap .i64 (IntKind.wrap .i64 (Int.tdiv n 16) + IntKind.wrap .i64 ((j:Int) * IntKind.wrap .i64 (1 + pkV (IntKind.wrap .i64 (Int.tdiv n 64)) 3)))) 4) (pkV_rng _ 4 (by omega)).1 (pkV_rng _ 4 (by omega)).2 ?_
     rw [hi]
     refine hu.trans (bind_step p2 ?_)
     simp only [hc,decide_true,cond_true]
     refine bind_step p3 (bind_step (side _) ?_)
     simp only [w1,w2]
    ·have hi:idf n false j = (j:Int):=by unfold idf; rw [if_neg (fun h=>hc h.2)]
     refine step (pkV (IntKind.wrap .i64 (IntKind.wrap .i64 (Int.tdiv n 16) + IntKind.wrap .i64 ((j:Int) * IntKind.wrap .i64 (1 + pkV (IntKind.wrap .i64 (Int.tdiv n 64)) 3)))) 4) (pkV_rng _ 4 (by omega)).1 (pkV_rng _ 4 (by omega)).2 ?_
     rw [hi]
     refine hu.trans (bind_step p2 ?_)
     simp only [hc,decide_false,cond_false]
     exact bind_step p3 (bind_step (side _) rfl)
  ·refine ⟨acc,?_,by omega,h5,fun v hv=>(h6 v hv).2⟩
   unfold f12_l6
   rw [dF (by omega)]
   rfl
theorem at_rng (l:List (List Int)) (hl:∀ r ∈ l,∀ x ∈ r,i64 x) (j:Nat) (c:Int):i64 (at_ tI (at_ (.arr 5 tI) l (j:Int)) c):=by
 have h0:i64 0:=by unfold i64; omega
 have key:∀ r:List Int,(∀ x ∈ r,i64 x) → i64 (at_ tI r c):=by
  intro r hr
  unfold at_
  rw [List.getD_eq_getElem?_getD]
  cases h:r[c.toNat]? with
  | none=>exact h0
  | some x=>exact hr x (List.mem_of_getElem? h)
 refine key _ ?_
 intro x hx
 unfold at_ at hx
 rw [List.getD_eq_getElem?_getD] at hx
 cases h:l[(j:Int).toNat]? with
 | none =>
  rw [h] at hx
  have:x ∈ List.replicate 5 (0:Int):=hx
  rw [(List.mem_replicate.1 this).2]
  exact h0
 | some r =>
  rw [h] at hx
  exact hl r (List.mem_of_getElem? h) x hx
theorem made_edges (n:Int) (l:List (List Int)) (hl:∀ r ∈ l,∀ x ∈ r,i64 x) (hll:l.length ≤ 9223372036854775807) (vs:List Vx) (hv0:0 < vs.length) (hvs:∀ v ∈ vs,okV v = true) (hv9:vs.length ≤ 1000):∀ (m k j:Nat) (acc:List Ed),l.length - j ≤ m → m < k → j ≤ 20 → acc.length ≤ j → acc.Pairwise (fun a b=>a.1 < b.1) → (∀ e ∈ acc,e.1 < (j:Int) + pkV (IntKind.wrap .i64 (Int.tdiv n 4)) 20 ∧ okE e = true ∧ hasV vs e.2.1 = true ∧ hasV vs e.2.2.1 = true) →
  ∃ es,f12_l13 n l (vs.length:Int) vs k (j:Int) acc = some ((n,(vs.length:Int),()),(),((),(),vs,es,())) ∧ es.Pairwise (fun a b=>a.1 < b.1) ∧ ∀ e ∈ es,okE e = true ∧ hasV vs e.2.1 = true ∧ hasV vs e.2.2.1 = true:=by
 intro m
 induction m with
 | zero =>
  intro k j acc h1 h2 h3 h4 h5 h6
  obtain ⟨k,rfl⟩:∃ q,k = q + 1:=⟨k - 1,by omega⟩
  refine ⟨acc,?_,h5,fun e he=>(h6 e he).2⟩
  unfold f12_l13
  rw [dF (by omega)]
  rfl
 | succ m ih =>
  intro k j acc h1 h2 h3 h4 h5 h6
  obtain ⟨k,rfl⟩:∃ q,k = q + 1:=⟨k - 1,by omega⟩
  by_cases hj:j < l.length
  ·by_cases h20:j < 20
   ·have hu:=f12_l13.eq_2 n l (vs.length:Int) vs (j:Int) acc k
    have rng (c:Int):=at_rng l hl j c
    have i5:∀ c:Nat,c < 5 → inR (c:Int) 5 = true:=fun c hc=>by rw [inRN,dT hc]
    have q0:inR (0:Int) 5 = true:=i5 0 (by omega)
    have q1:inR (1:Int) 5 = true:=i5 1 (by omega)
    have q2:inR (2:Int) 5 = true:=i5 2 (by omega)
    have q3:inR (3:Int) 5 = true:=i5 3 (by omega)
    have q4:inR (4:Int) 5 = true:=i5 4 (by omega)
    rw [dT (show (j:Int) < (l.length:Int) by omega),cond_true,dT (show (j:Int) < 20 by omega),cond_true] at hu
    simp only [inRN,dT hj,cond_true,q0,q1,q2,q3,q4,wS j (by omega)] at hu
    have b:=pkV_rng (IntKind.wrap .i64 (Int.tdiv n 4)) 20 (by omega)
    have p27:=f45_eq _ 20 (wrap_rng (Int.tdiv n 4)) (by omega)
    have hmany:(0:Int) < (vs.length:Int):=by omega
    have p29:=f45_eq _ (vs.length:Int) (rng 0) hmany
    have p32:=f45_eq _ (vs.length:Int) (rng 1) hmany
    have p35:=f45_eq _ 2 (rng 2) (by omega)
    have p37:=f45_eq _ 12 (rng 3) (by omega)
    have p39:=f45_eq _ 6 (rng 4) (by omega)
    have p41:=f45_eq _ 11 (rng 4) (by omega)
    have p43:=f45_eq _ 2001 (rng 3) (by omega)
    have end_ok:∀ c:Int,∃ i:Nat,∃ h:i < vs.length,pkV (at_ tI (at_ (.arr 5 tI) l (j:Int)) c) (vs.length:Int) = (i:Int) ∧ hasV vs vs[i].1 = true ∧ 0 ≤ vs[i].1 ∧ vs[i].1 ≤ 23 ∧ at_ tV vs (i:Int) = vs[i]:=by
     intro c
     have r:=pkV_rng (at_ tI (at_ (.arr 5 tI) l (j:Int)) c) (vs.length:Int) hmany
     generalize pkV (at_ tI (at_ (.arr 5 tI) l (j:Int)) c) (vs.length:Int) = y at r
     have hi:y.toNat < vs.length:=by omega
     have ho:=hvs _ (List.getElem_mem hi)
     unfold okV at ho
     simp only [Bool.and_eq_true,decide_eq_true_eq] at ho
     exact ⟨y.toNat,hi,by omega,hasV_of (List.getElem_mem hi),by omega,by omega,atN tV vs y.toNat hi⟩
    obtain ⟨i0,hi0,e0,s0,s1,s2,s3⟩:=end_ok 0
    obtain ⟨i1,hi1,e1,t0,t1,t2,t3⟩:=end_ok 1
    rw [e0] at p29
    rw [e1] at p32
    have w:IntKind.wrap .i64 ((j:Int) + pkV (IntKind.wrap .i64 (Int.tdiv n 4)) 20) = (j:Int) + pkV (IntKind.wrap .i64 (Int.tdiv n 4)) 20:=wrap_i64 _ (by omega) (by omega)
    have step:∀ (d:Bool) (y z:Int),-1000 ≤ y → y ≤ 1000 → 0 ≤ z → z < 6 → f12_l13 n l (vs.length:Int) vs (k + 1) (j:Int) acc = (bif (decide (acc.length + ([((j:Int) + pkV (IntKind.wrap .i64 (Int.tdiv n 4)) 20,vs[i0].1,vs[i1].1,d,y,z,())]:List Ed).length ≤ appLim)) then f12_l13 n l (vs.length:Int) vs k ((j + 1:Nat):Int) (acc ++ ([((j:Int) + pkV (IntKind.wrap .i64 (Int.tdiv n 4)) 20,vs[i0].1,vs[i1].1,d,y,z,())]:List Ed)) else none) →
      ∃ es,f12_l13 n l (vs.length:Int) vs (k + 1) (j:Int) acc = some ((n,(vs.length:Int),()),(),((),(),vs,es,())) ∧ es.Pairwise (fun a b=>a.1 < b.1) ∧ ∀ e ∈ es,okE e = true ∧ hasV vs e.2.1 = true ∧ hasV vs e.2.2.1 = true:=by
     intro d y z hy1 hy2 hz1 hz2 he
     rw [appOk _ _ (by simp; omega),cond_true] at he
     obtain ⟨es,b1,b2⟩:=ih k (j + 1) (acc ++ [((j:Int) + pkV (IntKind.wrap .i64 (Int.tdiv n 4)) 20,vs[i0].1,vs[i1].1,d,y,z,())]) (by omega) (by omega) (by omega) (by simp; omega) (by
      refine List.pairwise_append.2 ⟨h5,List.pairwise_singleton _ _,fun a ha b hb=>?_⟩
      rw [List.mem_singleton.1 hb]
      exact (h6 a ha).1) (by
      intro e he'
      rcases List.mem_append.1 he' with he' | he'
      ·have:=h6 e he'
       exact ⟨by omega,this.2⟩
      ·rw [List.mem_singleton.1 he']
       refine ⟨by show (j:Int) + _ < _; omega,?_,s0,t0⟩
       unfold okE
       simp only [Bool.and_eq_true,decide_eq_true_eq]
       omega)
     exact ⟨es,he.trans b1,b2⟩
    have z6:=pkV_rng (at_ tI (at_ (.arr 5 tI) l (j:Int)) 4) 6 (by omega)
    have y12:=pkV_rng (at_ tI (at_ (.arr 5 tI) l (j:Int)) 3) 12 (by omega)
    have y2001:=pkV_rng (at_ tI (at_ (.arr 5 tI) l (j:Int)) 3) 2001 (by omega)
    by_cases hc:pkV (at_ tI (at_ (.arr 5 tI) l (j:Int)) 4) 11 = 10
    ·refine step (decide (pkV (at_ tI (at_ (.arr 5 tI) l (j:Int)) 2) 2 = 1)) (pkV (at_ tI (at_ (.arr 5 tI) l (j:Int)) 3) 2001 - 1000) _ (by omega) (by omega) z6.1 z6.2 ?_
     refine hu.trans (bind_step p27 (bind_step p29 ?_))
     simp only [inRN,dT hi0,cond_true]
     refine bind_step p32 ?_
     simp only [inRN,dT hi1,cond_true]
     refine bind_step p35 (bind_step p37 (bind_step p39 (bind_step p41 ?_)))
     simp only [hc,decide_true,cond_true]
     refine bind_step p43 ?_
     simp only [w,s3,t3]
     rw [wrap_i64 (pkV (at_ tI (at_ (.arr 5 tI) l (j:Int)) 3) 2001 - 1000) (by omega) (by omega)]
    ·refine step (decide (pkV (at_ tI (at_ (.arr 5 tI) l (j:Int)) 2) 2 = 1)) (pkV (at_ tI (at_ (.arr 5 tI) l (j:Int)) 3) 12 - 3) _ (by omega) (by omega) z6.1 z6.2 ?_
     refine hu.trans (bind_step p27 (bind_step p29 ?_))
     simp only [inRN,dT hi0,cond_true]
     refine bind_step p32 ?_
     simp only [inRN,dT hi1,cond_true]
     refine bind_step p35 (bind_step p37 (bind_step p39 (bind_step p41 ?_)))
     simp only [hc,decide_false,cond_false,w,s3,t3]
     rw [wrap_i64 (pkV (at_ tI (at_ (.arr 5 tI) l (j:Int)) 3) 12 - 3) (by omega) (by omega)]
   ·refine ⟨acc,?_,h5,fun e he=>(h6 e he).2⟩
    unfold f12_l13
    rw [dT (show (j:Int) < (l.length:Int) by omega),cond_true,dF (show ¬ (j:Int) < 20 by omega)]
    rfl
  ·refine ⟨acc,?_,h5,fun e he=>(h6 e he).2⟩
   unfold f12_l13
   rw [dF (by omega)]
   rfl
theorem made_dues (n:Int) (vs:List Vx) (hv9:vs.length ≤ 1000) (es:List Ed):∀ (m k j:Nat) (acc:List Int),vs.length - j ≤ m → m < k → j ≤ 3 → acc = (vs.map (·.1)).take j → j ≤ vs.length →
  ∃ i,i ≤ 3 ∧ f12_l20 n (vs.length:Int) vs es k (j:Int) acc = some ((),(),((),(),vs,es,(vs.map (·.1)).take i,())):=by
 intro m
 induction m with
 | zero =>
  intro k j acc h1 h2 h3 h4 h5
  obtain ⟨k,rfl⟩:∃ q,k = q + 1:=⟨k - 1,by omega⟩
  have hu:=f12_l20.eq_2 n (vs.length:Int) vs es (j:Int) acc k
  have p:=f45_eq _ 4 (wrap_rng (Int.tdiv n 32)) (by omega)
  refine ⟨j,h3,hu.trans (bind_step p ?_)⟩
  subst h4
  cases hc:decide ((j:Int) < pkV (IntKind.wrap .i64 (Int.tdiv n 32)) 4) with
  | false=>rfl
  | true =>
   rw [cond_true,dF (by omega)]
   rfl
 | succ m ih =>
  intro k j acc h1 h2 h3 h4 h5
  obtain ⟨k,rfl⟩:∃ q,k = q + 1:=⟨k - 1,by omega⟩
  have hu:=f12_l20.eq_2 n (vs.length:Int) vs es (j:Int) acc k
  have p:=f45_eq _ 4 (wrap_rng (Int.tdiv n 32)) (by omega)
  have r:=pkV_rng (IntKind.wrap .i64 (Int.tdiv n 32)) 4 (by omega)
  by_cases c1:(j:Int) < pkV (IntKind.wrap .i64 (Int.tdiv n 32)) 4
  ·by_cases c2:j < vs.length
   ·have hget:at_ tV vs (j:Int) = vs[j]:=atN tV vs j c2
    have hl:acc.length ≤ 10:=by subst h4; simp; omega
    obtain ⟨i,hi,b1⟩:=ih k (j + 1) (acc ++ [vs[j].1]) (by omega) (by omega) (by omega) (by
     subst h4
     rw [List.take_succ_eq_append_getElem (by simpa using c2)]
     simp) (by omega)
    refine ⟨i,hi,hu.trans (bind_step p ?_)⟩
    show (bif decide ((j:Int) < pkV (IntKind.wrap .i64 (Int.tdiv n 32)) 4) then (bif decide ((j:Int) < (vs.length:Int)) then (bif inR (j:Int) vs.length then (bif (decide (acc.length + ([(at_ tV vs (j:Int)).1]:List Int).length ≤ appLim)) then f12_l20 n (vs.length:Int) vs es k (IntKind.wrap .i64 ((j:Int) + (1:Int))) (acc ++ ([(at_ tV vs (j:Int)).1]:List Int)) else none) else none) else _) else _) = _
    rw [dT c1,cond_true,dT (show (j:Int) < (vs.length:Int) by omega),cond_true,inRN,dT c2,hget,cond_true,appOk _ _ (by simp; omega),wS j (by omega)]
    exact b1
   ·refine ⟨j,h3,hu.trans (bind_step p ?_)⟩
    subst h4
    rw [dT c1,cond_true,dF (by omega)]
    rfl
  ·refine ⟨j,h3,hu.trans (bind_step p ?_)⟩
   subst h4
   rw [dF c1]
   rfl
theorem made_valid (n:Int) (l:List (List Int)) (wide:Bool) (hn:i64 n) (hl:∀ r ∈ l,∀ x ∈ r,i64 x) (hll:l.length ≤ 9223372036854775807):∃ vs es ds,f12 n l wide = some ((vs,es,ds,()),()) ∧ valid (vs,es,ds,()) = true ∧ 0 < vs.length:=by
 have p1:=f45_eq n 8 hn (by omega)
 have r1:=pkV_rng n 8 (by omega)
 have main:∀ many:Nat,0 < many → many ≤ 18 ∧ (wide = false → many ≤ 8) → ∃ vs es ds,
   ((f12_l6 n l wide (many:Int) (((many:Int) - (0:Int)).toNat + 1) (0:Int) []).bind fun o21 =>
    (f12_l13 o21.1.1 o21.1.2.1 o21.1.2.2.1 o21.2.2.2.2.1 (((o21.1.2.1.length:Int) - (0:Int)).toNat + 1) (0:Int) []).bind fun o45 =>
    (f12_l20 o45.1.1 o45.1.2.1 o45.2.2.2.2.1 o45.2.2.2.2.2.1 ((o45.1.2.1 - (0:Int)).toNat + 1) (0:Int) []).bind fun o53 =>
    some ((o53.2.2.2.2.1,(o53.2.2.2.2.2.1,(o53.2.2.2.2.2.2.1,()))),())) = some ((vs,es,ds,()),()) ∧ valid (vs,es,ds,()) = true ∧ 0 < vs.length:=by
  intro many hm0 hm
  obtain ⟨vs,a1,a2,a3,a4⟩:=made_verts n l wide many hm many (((many:Int) - (0:Int)).toNat + 1) 0 [] (by omega) (by omega) (by omega) rfl List.Pairwise.nil (fun v hv=>by simp at hv)
  obtain ⟨es,b1,b2,b3⟩:=made_edges n l hl hll vs (by omega) a4 (by omega) l.length (((l.length:Int) - (0:Int)).toNat + 1) 0 [] (by omega) (by omega) (by omega) (by simp) List.Pairwise.nil (fun v hv=>by simp at hv)
  obtain ⟨i,hi,c1⟩:=made_dues n vs (by omega) es vs.length (((vs.length:Int) - (0:Int)).toNat + 1) 0 [] (by omega) (by omega) (by omega) (by simp) (by omega)
  refine ⟨vs,es,(vs.map (·.1)).take i,bind_step a1 ?_,?_,by omega⟩
  ·rw [← a2]
   refine bind_step b1 ?_
   refine bind_step c1 ?_
   rfl
  ·unfold valid
   have d1:asc kV vs = true:=(asc_pairwise kV).2 a3
   have d2:asc kE es = true:=(asc_pairwise kE).2 b2
   have d3:asc kI ((vs.map (·.1)).take i) = true:=(asc_pairwise kI).2 ((List.pairwise_map.2 a3).sublist (List.take_sublist _ _))
   have d4:((vs.map (·.1)).take i).length ≤ 3:=by rw [List.length_take]; omega
   have d5:((vs.map (·.1)).take i).all (hasV vs) = true:=List.all_eq_true.2 fun d hd=>by
    obtain ⟨v,hv,h1⟩:=List.mem_map.1 (List.mem_of_mem_take hd)
    rw [← h1]
    exact hasV_of hv
   simp only [d1,d2,d3,d5,dT d4,Bool.true_and,Bool.and_true,Bool.and_eq_true,List.all_eq_true]
   exact ⟨a4,fun e he=>⟨⟨(b3 e he).1,(b3 e he).2.1⟩,(b3 e he).2.2⟩⟩
 unfold f12
 cases wide with
 | true =>
  obtain ⟨vs,es,ds,h1,h2⟩:=main (1 + (pkV n 8).toNat + 10) (by omega) ⟨by omega,fun h=>by cases h⟩
  refine ⟨vs,es,ds,bind_step p1 ?_,h2⟩
  have w1:IntKind.wrap .i64 (1 + pkV n 8) = 1 + pkV n 8:=wrap_i64 _ (by omega) (by omega)
  have w2:IntKind.wrap .i64 (1 + pkV n 8 + 10) = ((1 + (pkV n 8).toNat + 10:Nat):Int):=by rw [wrap_i64 _ (by omega) (by omega)]; omega
  simp only [cond_true,w1,w2]
  exact h1
 | false =>
  obtain ⟨vs,es,ds,h1,h2⟩:=main (1 + (pkV n 8).toNat) (by omega) ⟨by omega,fun _=>by omega⟩
  refine ⟨vs,es,ds,bind_step p1 ?_,h2⟩
  have w1:IntKind.wrap .i64 (1 + pkV n 8) = ((1 + (pkV n 8).toNat:Nat):Int):=by rw [wrap_i64 _ (by omega) (by omega)]; omega
  simp only [cond_false,w1]
  exact h1
theorem i64_of {x:Int} (h:(Ty.int .i64).ok x):i64 x:=h
theorem rows_of {l:List (List Int)} {n:Nat} (h:(Ty.sl (.arr n tI)).ok l):l.length ≤ 9223372036854775807 ∧ ∀ r ∈ l,∀ x ∈ r,i64 x:=by
 refine ⟨Nat.le_trans h.1 (Nat.le_of_ble_eq_true (by kernel_rfl)),fun r hr x hx=>?_⟩
 exact i64_of ((h.2 r hr).2 x hx)
end Go.V.G
namespace Go.V.G
open Go.Proofs
theorem toBytes_len (s:ByteArray):(toBytes s).length = s.size:=by unfold toBytes; simp
theorem f21_eq (l:List En) (a c:Int) (ha:i64 a) (hl:l.length ≤ 1000) (hs:∀ x ∈ l,x.2.1.size ≤ 65536):∃ y,f21 l a c = some (y,()) ∧ y.length ≤ l.length ∧ ∀ x ∈ y,x.2.1.size ≤ 65536:=by
 unfold f21
 rw [dT (show l.length ≤ appLim by unfold appLim; omega),cond_true]
 by_cases h0:l.length = 0
 ·rw [dT (by omega)]
  exact ⟨l,rfl,Nat.le_refl _,hs⟩
 ·rw [dF (by omega),cond_false]
  have p1:=f18_eq a (l.length:Int) ha (by omega)
  have r1:=pkV_rng a (l.length:Int) (by omega)
  obtain ⟨i,hi⟩:∃ i:Nat,pkV a (l.length:Int) = (i:Int):=⟨(pkV a (l.length:Int)).toNat,by omega⟩
  rw [hi] at p1 r1
  have hil:i < l.length:=by omega
  have p5:=f18_eq a 5 ha (by omega)
  have hget:at_ tN l (i:Int) = l[i]:=atN tN l i hil
  have drop:∃ y,(bif (cutOk l.length none (some (i:Int)) && decide ((i:Int) = (i:Int))) then bif (cutOk l.length (some (IntKind.wrap .i64 ((i:Int) + (1:Int)))) none) then bif (decide (((l.drop 0).take (cutLen l.length none (some (i:Int)))).length + ((l.drop (Int.toNat (IntKind.wrap .i64 ((i:Int) + (1:Int))))).take (cutLen l.length (some (IntKind.wrap .i64 ((i:Int) + (1:Int)))) none)).length ≤ appLim)) then some ((((l.drop 0).take (cutLen l.length none (some (i:Int)))) ++ ((l.drop (Int.toNat (IntKind.wrap .i64 ((i:Int) + (1:Int))))).take (cutLen l.length (some (IntKind.wrap .i64 ((i:Int) + (1:Int)))) none))),()) else none else none else none) = some (y,()) ∧ y.length ≤ l.length ∧ ∀ x ∈ y,x.2.1.size ≤ 65536:=by
   refine ⟨((l.drop 0).take i) ++ ((l.drop (i + 1)).take (l.length - (i + 1))),?_,?_,fun x hx=>?_⟩
   ·rw [wS i (by omega),cutHi' _ _ (by omega),cutLo _ _ (by omega),cutLenHi,cutLenLo,Int.toNat_natCast,dT rfl,appOk _ _ (by simp; omega)]
    rfl
   ·simp only [List.length_append,List.length_take,List.length_drop]
    omega
   ·rcases List.mem_append.1 hx with hx | hx
    ·exact hs x (List.mem_of_mem_drop (List.mem_of_mem_take hx))
    ·exact hs x (List.mem_of_mem_drop (List.mem_of_mem_take hx))
  by_cases c5:pkV a 5 = 4
  ·obtain ⟨y,h1,h2⟩:=drop
   refine ⟨y,bind_step p1 ?_,h2⟩
   simp only [inRN,dT hil,cond_true]
   refine bind_step p5 ?_
   simp only [c5,decide_true,cond_true]
   simp only [eq_self,decide_true] at h1
   exact h1
  ·by_cases c0:(toBytes l[i].2.1).length = 0
   ·obtain ⟨y,h1,h2⟩:=drop
    refine ⟨y,bind_step p1 ?_,h2⟩
    simp only [inRN,dT hil,cond_true]
    refine bind_step p5 ?_
    simp only [c5,decide_false,cond_false,hget,c0]
    simp only [eq_self,decide_true] at h1
    exact h1
   ·have w7:i64 (IntKind.wrap .i64 (Int.tdiv a 7)):=wrap_rng _
    have p6:=f18_eq (IntKind.wrap .i64 (Int.tdiv a 7)) ((toBytes l[i].2.1).length:Int) w7 (by omega)
    have r6:=pkV_rng (IntKind.wrap .i64 (Int.tdiv a 7)) ((toBytes l[i].2.1).length:Int) (by omega)
    have hin:inR (pkV (IntKind.wrap .i64 (Int.tdiv a 7)) ((toBytes l[i].2.1).length:Int)) (toBytes l[i].2.1).length = true:=by unfold inR; simp only [Bool.and_eq_true,decide_eq_true_eq]; omega
    refine ⟨l.set i (l[i].1,ofBytes ((toBytes l[i].2.1).set (Int.toNat (pkV (IntKind.wrap .i64 (Int.tdiv a 7)) ((toBytes l[i].2.1).length:Int))) c),()),bind_step p1 ?_,by rw [List.length_set]; omega,fun x hx=>?_⟩
    ·simp only [inRN,dT hil,cond_true]
     refine bind_step p5 ?_
     simp only [c5,decide_false,cond_false,hget]
     rw [dF (by omega),cond_false]
     refine bind_step p6 ?_
     simp only [hin,cond_true,Int.toNat_natCast]
    ·rcases List.mem_or_eq_of_mem_set hx with hx | hx
     ·exact hs x hx
     ·rw [hx]
      show (ofBytes _).size ≤ _
      rw [ofBytes_size,List.length_set,toBytes_len]
      exact hs _ (List.getElem_mem hil)
end Go.V.G
namespace Go.V.G
open Go.Proofs
theorem keys_loop {l:List En} (h:Valid l) (hl:l.length ≤ 1000) (k:Nat) (hk:l.length < k):f114_l3 l k 0 [] = some (.inl ((),(),(l.map (·.1),()))):=by
 have hlp:=fold_loop tN (fun (acc:List Int) (x:En)=>acc ++ [x.1]) (fun k j acc=>f114_l3 l k j acc) (fun r=>.inl ((),(),(r,()))) (fun j acc=>acc.length ≤ j ∧ j ≤ 1000) l (by
  intro k j acc hI
  show f114_l3 l (k + 1) (j:Int) acc = _
  conv=>lhs; unfold f114_l3
  by_cases hj:j < l.length
  ·have hget:at_ tN l (j:Int) = l[j]:=atN tN l j hj
   have hv:=h.val _ (List.getElem_mem hj)
   rw [dif_pos hj,dT (by omega)]
   simp only [cond_true,inRN,dT hj,hget,wS j (by omega)]
   rw [dF (by omega),cond_false,dF (by omega),cond_false,appOk _ _ (by simp; omega)]
   rfl
  ·rw [dif_neg hj,dF (by omega)]
   rfl) (by
  intro j acc hj hI
  show (acc ++ [l[j].1]).length ≤ j + 1 ∧ j + 1 ≤ 1000
  simp
  omega)
 have h2:=hlp l.length k 0 [] (by omega) hk ⟨by simp,by omega⟩
 rw [List.drop_zero,fold_map] at h2
 exact h2
theorem range_loop (ks:List Int) (hl:ks.length ≤ 1000) (h0:∀ x ∈ ks,0 ≤ x ∧ x < 64) (ha:asc kI ks = true):∀ (m k j:Nat),ks.length - j ≤ m → m < k → f173_l2 ks k (j:Int) = some (.inl ((),(),())):=by
 intro m
 induction m with
 | zero =>
  intro k j h1 h2
  obtain ⟨k,rfl⟩:∃ q,k = q + 1:=⟨k - 1,by omega⟩
  unfold f173_l2
  rw [dF (by omega)]
  rfl
 | succ m ih =>
  intro k j h1 h2
  obtain ⟨k,rfl⟩:∃ q,k = q + 1:=⟨k - 1,by omega⟩
  by_cases hj:j < ks.length
  ·have hget:at_ tI ks (j:Int) = ks[j]:=atN tI ks j hj
   have hr:=h0 _ (List.getElem_mem hj)
   unfold f173_l2
   rw [dT (by omega)]
   simp only [cond_true,inRN,dT hj,hget,wS j (by omega)]
   rw [dF (show ¬ ks[j] < 0 by omega),cond_false,dF (show ¬ ks[j] ≥ 64 by omega),cond_false]
   by_cases c:j = 0
   ·subst c
    rw [dF (show ¬ ((0:Nat):Int) > 0 by omega),cond_false]
    exact ih k 1 (by omega) (by omega)
   ·obtain ⟨i,rfl⟩:∃ i,j = i + 1:=⟨j - 1,by omega⟩
    have hget1:at_ tI ks ((i + 1 - 1:Nat):Int) = ks[i]'(by omega):=atN tI ks i (by omega)
    have hlt:=(asc_adj kI).1 ha i hj
    rw [dT (show ((i + 1:Nat):Int) > 0 by omega),cond_true,pred_wrap (i + 1) (by omega) (by omega),inRN,dT (show i + 1 - 1 < ks.length by omega),cond_true,hget1,dF (by show ¬ ks[i + 1] ≤ ks[i]'(by omega); have:ks[i]'(by omega) < ks[i + 1]:=hlt; omega),cond_false]
    exact ih k (i + 1 + 1) (by omega) (by omega)
  ·unfold f173_l2
   rw [dF (by omega)]
   rfl
theorem rroot {l:List En} (h:Valid l) (hl:l.length ≤ 1000):f52 l = some (rootD l,0,()):=by
 have h1:=keys_loop h hl (((l.length:Int) - (0:Int)).toNat + 1) (by omega)
 have h2:=range_loop (l.map (·.1)) (by rw [List.length_map]; omega) (fun x hx=>by
  obtain ⟨e,he,rfl⟩:=List.mem_map.1 hx
  exact h.key e he) ((asc_pairwise kI).2 (List.pairwise_map.2 h.asc)) (l.map (·.1)).length ((((l.map (·.1)).length:Int) - (0:Int)).toNat + 1) 0 (by omega) (by omega)
 have h173:f173 (l.map (·.1)) = some (true,()):=by unfold f173; exact bind_step h2 rfl
 have h114:f114 l = some (true,()):=by
  unfold f114
  refine bind_step h1 ?_
  exact bind_step h173 rfl
 have h90:=f38_eq (l:=l) (fun e he=>(h.val e he).2) (by omega) 6 66 0 [] (by omega) (by omega) (by omega) (by simp)
 unfold f52
 refine bind_step h114 ?_
 exact bind_step h90 rfl
theorem root_same (vs:List Vx) (es:List Ed) (ds:List Int) (h1:vs.length ≤ 1099511627776) (h2:es.length ≤ 1099511627776) (h3:ds.length ≤ 1099511627776):∃ r,f15 (vs,es,ds,()) = some r ∧ f16 (vs,es,ds,()) = some r:=by
 have h13:=entries_all_p vs es ds h1 h2 h3
 have h14:=entries_all_r vs es ds h1 h2 h3
 by_cases hv:valid (vs,es,ds,()) = true
 ·have h:=ok_of _ _ _ hv
  have n1:=h.nv
  refine ⟨_,root15 hv,?_⟩
  rw [if_pos hv] at h14
  unfold f16
  refine bind_step h14 ?_
  refine bind_step (rroot (ents_valid h) (by have:=ents_len h; show (entsG vs es ds).length ≤ 1000; omega)) ?_
  rfl
 ·rw [if_neg hv] at h13 h14
  refine ⟨(⟨#[]⟩,60,()),?_,?_⟩
  ·unfold f15
   exact bind_step h13 rfl
  ·unfold f16
   exact bind_step h14 rfl
end Go.V.G
namespace Go.V.G
open Go.Proofs
theorem cutS_size (s:ByteArray) (v:Int):(cutS s none (some v)).size ≤ v.toNat:=by
 unfold cutS cutHi
 simp only [ByteArray.size_extract]
 omega
theorem cut_ok (n:Nat) (v:Int) (h0:0 ≤ v) (h1:v ≤ n):cutOk n none (some v) = true:=by
 unfold cutOk
 simp only [Bool.and_eq_true,decide_eq_true_eq]
 exact ⟨h0,h1⟩
structure SmallG (g:Gr):Prop where
 v:g.1.length ≤ 1000
 e:g.2.1.length ≤ 1000
 d:g.2.2.1.length ≤ 1000
theorem few_eq (g:Gr) (h1:g.1.length ≤ 9223372036854775807) (h2:g.2.1.length ≤ 9223372036854775807) (h3:g.2.2.1.length ≤ 9223372036854775807):∃ g',f11 g = some (g',()) ∧ SmallG g':=by
 obtain ⟨vs,es,ds,u⟩:=g
 simp only at h1 h2 h3
 have hv:∀ (a n:Nat) (v:Int),v = (if (a:Int) < (n:Int) then (a:Int) else (n:Int)) → 0 ≤ v ∧ v ≤ (n:Int) ∧ v ≤ (a:Int):=by
  intro a n v hv
  subst hv
  split <;> omega
 have v1:=hv 8 vs.length _ rfl
 have v2:=hv 10 es.length _ rfl
 have v3:=hv 4 ds.length _ rfl
 rw [show ((8:Nat):Int) = 8 from rfl] at v1
 rw [show ((10:Nat):Int) = 10 from rfl] at v2
 rw [show ((4:Nat):Int) = 4 from rfl] at v3
 refine ⟨(vs.take (Int.toNat (if (8:Int) < (vs.length:Int) then (8:Int) else (vs.length:Int))),es.take (Int.toNat (if (10:Int) < (es.length:Int) then (10:Int) else (es.length:Int))),ds.take (Int.toNat (if (4:Int) < (ds.length:Int) then (4:Int) else (ds.length:Int))),()),?_,⟨?_,?_,?_⟩⟩
 ·unfold f11
  simp only
  rw [cut_ok _ _ v1.1 (by omega),cond_true,cut_ok _ _ v2.1 (by omega),cond_true,cut_ok _ _ v3.1 (by omega),cond_true]
 ·show (vs.take _).length ≤ 1000
  rw [List.length_take]
  omega
 ·show (es.take _).length ≤ 1000
  rw [List.length_take]
  omega
 ·show (ds.take _).length ≤ 1000
  rw [List.length_take]
  omega
theorem len_le {n:Nat} (h:n ≤ maxLen):n ≤ 9223372036854775807:=Nat.le_trans h (Nat.le_of_ble_eq_true (by kernel_rfl))
end Go.V.G
namespace Go.V.G
open Go.Proofs
def f3_l6_head:Ann:={ env:=[(1,TI),(2,.ty (.sl (.arr 5 tI))),(3,.ty .bool),(4,TI),(5,.ty .str),(6,TI),(7,.ty (.int .u8)),(8,.ty (.sl tN)),(9,cP 9),(19,.ty .bool),(20,.cst (.row 95 .whole)),(21,TI)],bxs:=[(9,.var [.ty (.sl tV),.ty (.sl tE),.ty (.sl tI)]),(95,.row tN false)] }
def f3_l6_outs:List (Ex × Ann):=[((.exit 0),{ env:=[(1,TI),(2,.ty (.sl (.arr 5 tI))),(3,.ty .bool),(4,TI),(5,.ty .str),(6,TI),(7,.ty (.int .u8)),(9,cP 9),(19,.ty .bool),(20,.cst (.row 95 .whole))],bxs:=[(9,.var [.ty (.sl tV),.ty (.sl tE),.ty (.sl tI)]),(95,.row tN false)] })]
def f3_l6 (t1:Int) (t2:(List (List Int))) (t3:Bool) (t4:Int) (t5:ByteArray) (t6:Int) (t7:Int) (t8:(List En)) (t19:Bool) (b9g0:(List Vx)) (b9g1:(List Ed)) (b9g2:(List Int)):Nat → Int → (List En) → Option (outDen f3_l6_outs)
 | 0,_,_=>none
 | k + 1,t21,r95 =>
 bif (decide (t21 < (t8.length:Int))) then
 bif (decide (t21 < (10:Int))) then
 bif (inR t21 t8.length) then
 let v2:Int:=(at_ tN t8 t21).1
 bif (inR t21 t8.length) then
 let v3:ByteArray:=(at_ tN t8 t21).2.1
 bif (inR t21 t8.length) then
 let v4:ByteArray:=(at_ tN t8 t21).2.1
 let v5:Int:=(if (100:Int) < (v4.size:Int) then (100:Int) else (v4.size:Int))
 bif (cutOk v3.size none (some v5)) then bif (decide (r95.length + ([(v2,((cutS v3 none (some v5)),()))]:List En).length ≤ appLim)) then f3_l6 t1 t2 t3 t4 t5 t6 t7 t8 t19 b9g0 b9g1 b9g2 k (IntKind.wrap .i64 (t21 + 1)) (r95 ++ ([(v2,((cutS v3 none (some v5)),()))]:List En)) else none else none
 else none
 else none
 else none
 else
 some ((t1,t2,t3,t4,t5,t6,t7,t19,()),(),((b9g0,b9g1,b9g2,()),r95,()))
 else
 some ((t1,t2,t3,t4,t5,t6,t7,t19,()),(),((b9g0,b9g1,b9g2,()),r95,()))
def f3_l6_n (n:Nat) (x:f3_l6_head.den):=f3_l6 x.1.1 x.1.2.1 x.1.2.2.1 x.1.2.2.2.1 x.1.2.2.2.2.1 x.1.2.2.2.2.2.1 x.1.2.2.2.2.2.2.1 x.1.2.2.2.2.2.2.2.1 x.1.2.2.2.2.2.2.2.2.1 x.2.2.1.1 x.2.2.1.2.1 x.2.2.1.2.2.1 n x.1.2.2.2.2.2.2.2.2.2.1 x.2.2.2.1
def f3_l6_spec:LSpec:={ thaws:=[.slot 20 95 tN],head:=f3_l6_head,outs:=f3_l6_outs,fn:=fun x=>f3_l6_n (((x.1.2.2.2.2.2.2.2.1.length:Int) - x.1.2.2.2.2.2.2.2.2.2.1).toNat + 1) x }
def f3_l20_head:Ann:={ env:=[(4,TI),(6,TI),(7,.ty (.int .u8)),(19,.ty .bool),(20,.ty (.sl tN)),(22,.cst (.row 185 .whole)),(24,cP 24),(27,.ty (.sl tN)),(108,.ty (.sl tG)),(109,TI),(110,TI),(156,.ty (.sl tI)),(157,TI),(158,TI)],bxs:=[(185,.row .str true),(24,.var [.ty (.sl tV),.ty (.sl tE),.ty (.sl tI)])] }
def f3_l20_outs:List (Ex × Ann):=[((.exit 4),{ env:=[(4,TI),(6,TI),(7,.ty (.int .u8)),(19,.ty .bool),(20,.ty (.sl tN)),(22,.cst (.row 185 .whole)),(27,.ty (.sl tN)),(108,.ty (.sl tG)),(109,TI),(110,TI)],bxs:=[(185,.row .str true)] }),(.ret,{ env:=[(18,.ty .bool)] })]
def f3_l20 (t4:Int) (t6:Int) (t7:Int) (t19:Bool) (t20:(List En)) (t27:(List En)) (t108:(List Gr)) (t109:Int) (t110:Int) (t156:(List Int)) (t157:Int) (b24g0:(List Vx)) (b24g1:(List Ed)) (b24g2:(List Int)):Nat → Int → (List ByteArray) → Option (outDen f3_l20_outs)
 | 0,_,_=>none
 | k + 1,t158,r185 =>
 bif (decide (t158 < t157)) then
 bif (inR t158 t156.length) then
 (f19 (b24g0,(b24g1,(b24g2,()))) (at_ tI t156 t158)).bind fun y29 =>
 (f20 (b24g0,(b24g1,(b24g2,()))) (at_ tI t156 t158)).bind fun y30 =>
 bif (!(decide (y29.1 = y30.1))) then
 some (.inr ((false,()),(),()))
 else
 bif (decide (y29.2.1 ≠ y30.2.1)) then
 some (.inr ((false,()),(),()))
 else
 bif (decide (r185.length + ([y29.1]:List ByteArray).length ≤ appLim)) then f3_l20 t4 t6 t7 t19 t20 t27 t108 t109 t110 t156 t157 b24g0 b24g1 b24g2 k (IntKind.wrap .i64 (t158 + 1)) (r185 ++ ([y29.1]:List ByteArray)) else none
 else none
 else
 some (.inl ((t4,t6,t7,t19,t20,t27,t108,t109,t110,()),(),(r185,())))
def f3_l20_n (n:Nat) (x:f3_l20_head.den):=f3_l20 x.1.1 x.1.2.1 x.1.2.2.1 x.1.2.2.2.1 x.1.2.2.2.2.1 x.1.2.2.2.2.2.1 x.1.2.2.2.2.2.2.1 x.1.2.2.2.2.2.2.2.1 x.1.2.2.2.2.2.2.2.2.1 x.1.2.2.2.2.2.2.2.2.2.1 x.1.2.2.2.2.2.2.2.2.2.2.1 x.2.2.2.1.1 x.2.2.2.1.2.1 x.2.2.2.1.2.2.1 n x.1.2.2.2.2.2.2.2.2.2.2.2.1 x.2.2.1
def f3_l20_spec:LSpec:={ head:=f3_l20_head,outs:=f3_l20_outs,fn:=fun x=>f3_l20_n ((x.1.2.2.2.2.2.2.2.2.2.2.1 - x.1.2.2.2.2.2.2.2.2.2.2.2.1).toNat + 1) x }
def f3_l31_head:Ann:={ env:=[(4,TI),(6,TI),(7,.ty (.int .u8)),(19,.ty .bool),(20,.ty (.sl tN)),(22,.cst (.row 185 .whole)),(108,.ty (.sl tG)),(109,TI),(110,TI),(206,.ty (.sl (.sl tN))),(207,TI),(208,TI)],bxs:=[(185,.row .str true)] }
def f3_l31_outs:List (Ex × Ann):=[((.exit 6),{ env:=[(4,TI),(6,TI),(7,.ty (.int .u8)),(19,.ty .bool),(20,.ty (.sl tN)),(22,.cst (.row 185 .whole)),(108,.ty (.sl tG)),(109,TI),(110,TI)],bxs:=[(185,.row .str true)] }),(.ret,{ env:=[(18,.ty .bool)] })]
def f3_l31 (t4:Int) (t6:Int) (t7:Int) (t19:Bool) (t20:(List En)) (t108:(List Gr)) (t109:Int) (t110:Int) (t206:(List (List En))) (t207:Int) (r185:(List ByteArray)):Nat → Int → Option (outDen f3_l31_outs)
 | 0,_=>none
 | k + 1,t208 =>
 bif (decide (t208 < t207)) then
 bif (inR t208 t206.length) then
 let v49:(List En):=(at_ (.sl tN) t206 t208)
 (f22 v49).bind fun y50 =>
 (f23 v49).bind fun y51 =>
 bif (decide (y50.2.1 ≠ y51.2.1)) then
 some (.inr ((false,()),(),()))
 else
 (f24 y50.1 y51.1).bind fun y52 =>
 bif (!y52.1) then
 some (.inr ((false,()),(),()))
 else
 f3_l31 t4 t6 t7 t19 t20 t108 t109 t110 t206 t207 r185 k (IntKind.wrap .i64 (t208 + 1))
 else none
 else
 some (.inl ((t4,t6,t7,t19,t20,t108,t109,t110,()),(),(r185,())))
def f3_l31_n (n:Nat) (x:f3_l31_head.den):=f3_l31 x.1.1 x.1.2.1 x.1.2.2.1 x.1.2.2.2.1 x.1.2.2.2.2.1 x.1.2.2.2.2.2.1 x.1.2.2.2.2.2.2.1 x.1.2.2.2.2.2.2.2.1 x.1.2.2.2.2.2.2.2.2.1 x.1.2.2.2.2.2.2.2.2.2.1 x.2.2.1 n x.1.2.2.2.2.2.2.2.2.2.2.1
def f3_l31_spec:LSpec:={ head:=f3_l31_head,outs:=f3_l31_outs,fn:=fun x=>f3_l31_n ((x.1.2.2.2.2.2.2.2.2.2.1 - x.1.2.2.2.2.2.2.2.2.2.2.1).toNat + 1) x }
def f3_l11_head:Ann:={ env:=[(4,TI),(6,TI),(7,.ty (.int .u8)),(19,.ty .bool),(20,.ty (.sl tN)),(22,.cst (.row 185 .whole)),(108,.ty (.sl tG)),(109,TI),(110,TI)],bxs:=[(185,.row .str true)] }
def f3_l11_outs:List (Ex × Ann):=[((.exit 2),{ env:=[(6,TI),(7,.ty (.int .u8)),(19,.ty .bool),(22,.cst (.row 185 .whole))],bxs:=[(185,.row .str true)] }),(.ret,{ env:=[(18,.ty .bool)] })]
def f3_l11:Nat → Int → Int → Int → Bool → (List En) → (List Gr) → Int → Int → (List ByteArray) → Option (outDen f3_l11_outs)
 | 0,_,_,_,_,_,_,_,_,_=>none
 | k + 1,t4,t6,t7,t19,t20,t108,t109,t110,r185 =>
 bif (decide (t110 < t109)) then
 bif (inR t110 t108.length) then
 (f13 (at_ tG t108 t110)).bind fun y23 =>
 (f14 (at_ tG t108 t110)).bind fun y24 =>
 (f15 (at_ tG t108 t110)).bind fun y25 =>
 (f16 (at_ tG t108 t110)).bind fun y26 =>
 bif (decide (y23.2.1 ≠ y24.2.1)) then
 some (.inr ((false,()),(),()))
 else
 bif (decide (y25.2.1 ≠ y26.2.1)) then
 some (.inr ((false,()),(),()))
 else
 bif (!(decide (y25.1 = y26.1))) then
 some (.inr ((false,()),(),()))
 else
 (f17 y23.1 y24.1).bind fun y27 =>
 bif (!y27.1) then
 some (.inr ((false,()),(),()))
 else
 (f18 t4 (12:Int)).bind fun y28 =>
 (f3_l20 t4 t6 t7 t19 t20 y24.1 t108 t109 t110 ([t4,y28.1]:List Int) (([t4,y28.1]:List Int).length:Int) ((at_ tG t108 t110).1) ((at_ tG t108 t110).2.1) ((at_ tG t108 t110).2.2.1) (((([t4,y28.1]:List Int).length:Int) - (0:Int)).toNat + 1) (0:Int) r185).bind fun o31 =>
 Sum.elim (fun o32 =>
 let u34:Int:=o32.1.1
 let u35:Int:=o32.1.2.1
 let u36:Int:=o32.1.2.2.1
 let u37:Bool:=o32.1.2.2.2.1
 let u38:(List En):=o32.1.2.2.2.2.1
 let u39:(List En):=o32.1.2.2.2.2.2.1
 let u40:(List Gr):=o32.1.2.2.2.2.2.2.1
 let u41:Int:=o32.1.2.2.2.2.2.2.2.1
 let u42:Int:=o32.1.2.2.2.2.2.2.2.2.1
 let u43:(List ByteArray):=o32.2.2.1
 let v44:Bool:=(decide ((u39.length:Int) > (0:Int)))
 bif v44 then
 let v45:Int:=(IntKind.wrap .i64 ((u39.length:Int) - (1:Int)))
 bif (inR v45 u39.length) then
 let v46:ByteArray:=(at_ tN u39 v45).2.1
 bif (decide (u43.length + ([v46]:List ByteArray).length ≤ appLim)) then
 (f21 u39 u35 u36).bind fun y47 =>
 let v48:Int:=(([u38,u39,y47.1]:List (List En)).length:Int)
 (f3_l31 u34 u35 u36 u37 u38 u40 u41 u42 ([u38,u39,y47.1]:List (List En)) v48 (u43 ++ ([v46]:List ByteArray)) ((v48 - (0:Int)).toNat + 1) (0:Int)).bind fun o53 =>
 Sum.elim (fun o54 =>
 let u56:Int:=o54.1.1
 let u57:Int:=o54.1.2.1
 let u58:Int:=o54.1.2.2.1
 let u59:Bool:=o54.1.2.2.2.1
 let u60:(List En):=o54.1.2.2.2.2.1
 let u61:(List Gr):=o54.1.2.2.2.2.2.1
 let u62:Int:=o54.1.2.2.2.2.2.2.1
 let u63:Int:=o54.1.2.2.2.2.2.2.2.1
 let u64:(List ByteArray):=o54.2.2.1
 f3_l11 k u56 u57 u58 u59 u60 u61 u62 (IntKind.wrap .i64 (u63 + 1)) u64) (fun o55 =>
 let u65:Bool:=o55.1.1
 some (.inr ((u65,()),(),()))) o53
 else none
 else none
 else
 (f21 u39 u35 u36).bind fun y66 =>
 let v67:Int:=(([u38,u39,y66.1]:List (List En)).length:Int)
 (f3_l31 u34 u35 u36 u37 u38 u40 u41 u42 ([u38,u39,y66.1]:List (List En)) v67 u43 ((v67 - (0:Int)).toNat + 1) (0:Int)).bind fun o72 =>
 Sum.elim (fun o73 =>
 let u75:Int:=o73.1.1
 let u76:Int:=o73.1.2.1
 let u77:Int:=o73.1.2.2.1
 let u78:Bool:=o73.1.2.2.2.1
 let u79:(List En):=o73.1.2.2.2.2.1
 let u80:(List Gr):=o73.1.2.2.2.2.2.1
 let u81:Int:=o73.1.2.2.2.2.2.2.1
 let u82:Int:=o73.1.2.2.2.2.2.2.2.1
 let u83:(List ByteArray):=o73.2.2.1
 f3_l11 k u75 u76 u77 u78 u79 u80 u81 (IntKind.wrap .i64 (u82 + 1)) u83) (fun o74 =>
 let u84:Bool:=o74.1.1
 some (.inr ((u84,()),(),()))) o72) (fun o33 =>
 let u85:Bool:=o33.1.1
 some (.inr ((u85,()),(),()))) o31
 else none
 else
 some (.inl ((t6,t7,t19,()),(),(r185,())))
def f3_l11_n (n:Nat) (x:f3_l11_head.den):=f3_l11 n x.1.1 x.1.2.1 x.1.2.2.1 x.1.2.2.2.1 x.1.2.2.2.2.1 x.1.2.2.2.2.2.1 x.1.2.2.2.2.2.2.1 x.1.2.2.2.2.2.2.2.1 x.2.2.1
def f3_l11_spec:LSpec:={ thaws:=[.slot 22 185 .str],head:=f3_l11_head,outs:=f3_l11_outs,fn:=fun x=>f3_l11_n ((x.1.2.2.2.2.2.2.1 - x.1.2.2.2.2.2.2.2.1).toNat + 1) x }
def f3_l41_head:Ann:={ env:=[(6,TI),(7,.ty (.int .u8)),(19,.ty .bool),(22,.cst (.row 185 .whole)),(45,TI),(46,TI)],bxs:=[(185,.row .str true)] }
def f3_l41_outs:List (Ex × Ann):=[((.exit 8),{ env:=[(19,.ty .bool),(22,.cst (.row 185 .whole))],bxs:=[(185,.row .str true)] })]
def f3_l41 (t6:Int) (t7:Int) (t19:Bool) (t45:Int):Nat → Int → (List ByteArray) → Option (outDen f3_l41_outs)
 | 0,_,_=>none
 | k + 1,t46,r185 =>
 bif (decide (t46 < t45)) then
 bif (inR t46 r185.length) then
 let v93:Bool:=(decide (((at_ .str r185 t46).size:Int) > (0:Int)))
 bif v93 then
 bif (inR t46 r185.length) then
 let v94:Int:=((toBytes (at_ .str r185 t46)).length:Int)
 (f18 t6 v94).bind fun y95 =>
 bif (inR y95.1 (toBytes (at_ .str r185 t46)).length) then
 let v96:ByteArray:=(ofBytes ((toBytes (at_ .str r185 t46)).set (Int.toNat y95.1) t7))
 bif (decide (r185.length + ([v96]:List ByteArray).length ≤ appLim)) then f3_l41 t6 t7 t19 t45 k (IntKind.wrap .i64 (t46 + 1)) (r185 ++ ([v96]:List ByteArray)) else none
 else none
 else none
 else
 f3_l41 t6 t7 t19 t45 k (IntKind.wrap .i64 (t46 + 1)) r185
 else none
 else
 some ((t19,()),(),(r185,()))
def f3_l41_n (n:Nat) (x:f3_l41_head.den):=f3_l41 x.1.1 x.1.2.1 x.1.2.2.1 x.1.2.2.2.1 n x.1.2.2.2.2.1 x.2.2.1
def f3_l41_spec:LSpec:={ head:=f3_l41_head,outs:=f3_l41_outs,fn:=fun x=>f3_l41_n ((x.1.2.2.2.1 - x.1.2.2.2.2.1).toNat + 1) x }
def f3_l48_head:Ann:={ env:=[(19,.ty .bool),(22,.cst (.row 185 .whole)),(48,TI)],bxs:=[(185,.row .str true)] }
def f3_l48_outs:List (Ex × Ann):=[((.exit 10),{ env:=[(19,.ty .bool)] }),(.ret,{ env:=[(18,.ty .bool)] })]
def f3_l48 (t19:Bool) (r185:(List ByteArray)):Nat → Int → Option (outDen f3_l48_outs)
 | 0,_=>none
 | k + 1,t48 =>
 bif (decide (t48 < (r185.length:Int))) then
 bif (inR t48 r185.length) then
 (f25 (at_ .str r185 t48)).bind fun y100 =>
 bif (inR t48 r185.length) then
 (f26 (at_ .str r185 t48)).bind fun y101 =>
 bif (inR t48 r185.length) then
 (f27 (at_ .str r185 t48)).bind fun y102 =>
 bif (inR t48 r185.length) then
 (f28 (at_ .str r185 t48)).bind fun y103 =>
 let v104:Bool:=(!(decide (y100.1.1 = y101.1.1) && (decide (y100.1.2.1 = y101.1.2.1) && true)))
 bif v104 then
 some (.inr ((false,()),(),()))
 else
 bif (decide (y100.2.2.1 ≠ y101.2.2.1)) then
 some (.inr ((false,()),(),()))
 else
 bif (decide (y102.2.1 ≠ y103.2.1)) then
 some (.inr ((false,()),(),()))
 else
 bif (decide (y102.2.2.1 ≠ y103.2.2.1)) then
 some (.inr ((false,()),(),()))
 else
 (f29 y100.2.1 y101.2.1).bind fun y105 =>
 bif (!y105.1) then
 some (.inr ((false,()),(),()))
 else
 (f30 y102.1 y103.1).bind fun y106 =>
 bif (!y106.1) then
 some (.inr ((false,()),(),()))
 else
 f3_l48 t19 r185 k (IntKind.wrap .i64 (t48 + 1))
 else none
 else none
 else none
 else none
 else
 some (.inl ((t19,()),(),()))
def f3_l48_n (n:Nat) (x:f3_l48_head.den):=f3_l48 x.1.1 x.2.2.1 n x.1.2.1
def f3_l48_spec:LSpec:={ head:=f3_l48_head,outs:=f3_l48_outs,fn:=fun x=>f3_l48_n (((x.2.2.1.length:Int) - x.1.2.1).toNat + 1) x }
def f3 (a0:Gr) (a1:Int) (a2:(List (List Int))) (a3:Bool) (a4:Int) (a5:ByteArray) (a6:Int) (a7:Int) (a8:(List En)):Option (Bool × Unit) :=
 (f10 ).bind fun y1 =>
 bif (!y1.1) then
 some (false,())
 else
 (f3_l6 a1 a2 a3 a4 a5 a6 a7 a8 y1.1 a0.1 a0.2.1 a0.2.2.1 (((a8.length:Int) - (0:Int)).toNat + 1) (0:Int) []).bind fun o6 =>
 let u7:Int:=o6.1.1
 let u8:(List (List Int)):=o6.1.2.1
 let u9:Bool:=o6.1.2.2.1
 let u10:Int:=o6.1.2.2.2.1
 let u11:ByteArray:=o6.1.2.2.2.2.1
 let u12:Int:=o6.1.2.2.2.2.2.1
 let u13:Int:=o6.1.2.2.2.2.2.2.1
 let u14:Bool:=o6.1.2.2.2.2.2.2.2.1
 let u15:(List Vx):=o6.2.2.1.1
 let u16:(List Ed):=o6.2.2.1.2.1
 let u17:(List Int):=o6.2.2.1.2.2.1
 let u18:(List En):=o6.2.2.2.1
 let v19:Int:=(if (300:Int) < (u11.size:Int) then (300:Int) else (u11.size:Int))
 bif (cutOk u11.size none (some v19)) then
 (f11 (u15,(u16,(u17,())))).bind fun y20 =>
 (f12 u7 u8 u9).bind fun y21 =>
 let v22:Int:=(([y20.1,y21.1]:List Gr).length:Int)
 (f3_l11 ((v22 - (0:Int)).toNat + 1) u10 u12 u13 u14 u18 ([y20.1,y21.1]:List Gr) v22 (0:Int) ([(cutS u11 none (some v19))]:List ByteArray)).bind fun o86 =>
 Sum.elim (fun o87 =>
 let u89:Int:=o87.1.1
 let u90:Int:=o87.1.2.1
 let u91:Bool:=o87.1.2.2.1
 let u92:(List ByteArray):=o87.2.2.1
 (f3_l41 u89 u90 u91 (u92.length:Int) (((u92.length:Int) - (0:Int)).toNat + 1) (0:Int) u92).bind fun o97 =>
 let u98:Bool:=o97.1.1
 let u99:(List ByteArray):=o97.2.2.1
 (f3_l48 u98 u99 (((u99.length:Int) - (0:Int)).toNat + 1) (0:Int)).bind fun o107 =>
 Sum.elim (fun o108 =>
 let u110:Bool:=o108.1.1
 some (u110,())) (fun o109 =>
 let u111:Bool:=o109.1.1
 some (u111,())) o107) (fun o88 =>
 let u112:Bool:=o88.1.1
 some (u112,())) o86
 else none
def f3_spec:PSpec:={ args:=[tG,tI,(.sl (.arr 5 tI)),.bool,tI,.str,tI,(.int .u8),(.sl tN)],res:=[.bool],fn:=fun x=>f3 x.1 x.2.1 x.2.2.1 x.2.2.2.1 x.2.2.2.2.1 x.2.2.2.2.2.1 x.2.2.2.2.2.2.1 x.2.2.2.2.2.2.2.1 x.2.2.2.2.2.2.2.2.1 }
noncomputable def f3_code:Code:=Tryz.f3.body.getD .skip
noncomputable def f3_env:Env0:={ C:=cfg,P:=[(10,f10_spec),(11,f11_spec),(12,f12_spec),(13,f13_spec),(14,f14_spec),(15,f15_spec),(16,f16_spec),(17,f17_spec),(18,f18_spec),(19,f19_spec),(20,f20_spec),(21,f21_spec),(22,f22_spec),(23,f23_spec),(24,f24_spec),(25,f25_spec),(26,f26_spec),(27,f27_spec),(28,f28_spec),(29,f29_spec),(30,f30_spec)],L:=[(⟨12,0,3,6⟩,f3_l6_spec),(⟨12,0,3,20⟩,f3_l20_spec),(⟨12,0,3,31⟩,f3_l31_spec),(⟨12,0,3,11⟩,f3_l11_spec),(⟨12,0,3,41⟩,f3_l41_spec),(⟨12,0,3,48⟩,f3_l48_spec)],F:=[(3,Tryz.f3)] }
theorem f3_l6_ok:LoopOK f3_env 12 3 0 (loopAt f3_code 6) f3_l6_spec :=
 loopOK_of (by kernel_rfl) f3_l6_n (fun x o h=>⟨_,h⟩) (fun x=>by kernel_rfl) (fun n x=>by kernel_rfl)
theorem f3_l20_ok:LoopOK f3_env 12 3 0 (loopAt f3_code 20) f3_l20_spec :=
 loopOK_of (by kernel_rfl) f3_l20_n (fun x o h=>⟨_,h⟩) (fun x=>by kernel_rfl) (fun n x=>by kernel_rfl)
theorem f3_l31_ok:LoopOK f3_env 12 3 0 (loopAt f3_code 31) f3_l31_spec :=
 loopOK_of (by kernel_rfl) f3_l31_n (fun x o h=>⟨_,h⟩) (fun x=>by kernel_rfl) (fun n x=>by kernel_rfl)
theorem f3_l11_ok:LoopOK f3_env 12 3 0 (loopAt f3_code 11) f3_l11_spec :=
 loopOK_of (by kernel_rfl) f3_l11_n (fun x o h=>⟨_,h⟩) (fun x=>by kernel_rfl) (fun n x=>by kernel_rfl)
theorem f3_l41_ok:LoopOK f3_env 12 3 0 (loopAt f3_code 41) f3_l41_spec :=
 loopOK_of (by kernel_rfl) f3_l41_n (fun x o h=>⟨_,h⟩) (fun x=>by kernel_rfl) (fun n x=>by kernel_rfl)
theorem f3_l48_ok:LoopOK f3_env 12 3 0 (loopAt f3_code 48) f3_l48_spec :=
 loopOK_of (by kernel_rfl) f3_l48_n (fun x o h=>⟨_,h⟩) (fun x=>by kernel_rfl) (fun n x=>by kernel_rfl)
theorem f3_run (x:tysDen (f3_spec).args):runF f3_env 3 Tryz.f3 f3_code (f3_spec).args (f3_spec).res x = f3_spec.fn x:=by kernel_rfl
theorem f3_envOK:EnvOK Tryz.prog f3_env:=envOK_of cds (by kernel_rfl) cfg_ok ⟨⟨f10_pure,f10_enter⟩,⟨f11_pure,f11_enter⟩,⟨f12_pure,f12_enter⟩,⟨f13_pure,f13_enter⟩,⟨f14_pure,f14_enter⟩,⟨f15_pure,f15_enter⟩,⟨f16_pure,f16_enter⟩,⟨f17_pure,f17_enter⟩,⟨f18_pure,f18_enter⟩,⟨f19_pure,f19_enter⟩,⟨f20_pure,f20_enter⟩,⟨f21_pure,f21_enter⟩,⟨f22_pure,f22_enter⟩,⟨f23_pure,f23_enter⟩,⟨f24_pure,f24_enter⟩,⟨f25_pure,f25_enter⟩,⟨f26_pure,f26_enter⟩,⟨f27_pure,f27_enter⟩,⟨f28_pure,f28_enter⟩,⟨f29_pure,f29_enter⟩,⟨f30_pure,f30_enter⟩,trivial⟩ trivial ⟨⟨Tryz.func3,by kernel_rfl⟩,trivial⟩ ⟨⟨Tryz.f3,f3_code,rfl,rfl,f3_l6_ok⟩,⟨Tryz.f3,f3_code,rfl,rfl,f3_l20_ok⟩,⟨Tryz.f3,f3_code,rfl,rfl,f3_l31_ok⟩,⟨Tryz.f3,f3_code,rfl,rfl,f3_l11_ok⟩,⟨Tryz.f3,f3_code,rfl,rfl,f3_l41_ok⟩,⟨Tryz.f3,f3_code,rfl,rfl,f3_l48_ok⟩,trivial⟩ trivial trivial
theorem f3_pure:PureOK Tryz.prog cfg 3 f3_spec:=pure_of_run f3_envOK (fn:=Tryz.f3) (c:=f3_code) rfl rfl f3_spec (fun x _ h=>(f3_run x).trans h)
end Go.V.G
namespace Go.V.G
open Go.Proofs
abbrev tG3:Ty:=.pair (.sl tV) (.pair (.sl tE) (.pair (.sl tI) .unit))
def smT (r:List ByteArray):Prop:=∀ s ∈ r,s.size ≤ 65536
theorem short_loop (n:Int) (l:List (List Int)) (wide:Bool) (id:Int) (s:ByteArray) (at' c:Int) (t19:Bool) (vs:List Vx) (es:List Ed) (ds:List Int) (odd:List En) (hs:∀ x ∈ odd,x.2.1.size ≤ 9223372036854775807):∀ (m k j:Nat) (acc:List En),10 - j ≤ m → odd.length - j < k → j ≤ 10 → acc.length ≤ j → (∀ x ∈ acc,x.2.1.size ≤ 100) →
  ∃ short,f3_l6 n l wide id s at' c odd t19 vs es ds k (j:Int) acc = some ((n,l,wide,id,s,at',c,t19,()),(),((vs,es,ds,()),short,())) ∧ short.length ≤ 10 ∧ ∀ x ∈ short,x.2.1.size ≤ 100:=by
 intro m
 induction m with
 | zero =>
  intro k j acc h1 h2 h3 h4 h5
  obtain ⟨k,rfl⟩:∃ q,k = q + 1:=⟨k - 1,by omega⟩
  refine ⟨acc,?_,by omega,h5⟩
  unfold f3_l6
  cases decide ((j:Int) < (odd.length:Int)) with
  | false=>rfl
  | true =>
   rw [cond_true,dF (by omega)]
   rfl
 | succ m ih =>
  intro k j acc h1 h2 h3 h4 h5
  obtain ⟨k,rfl⟩:∃ q,k = q + 1:=⟨k - 1,by omega⟩
  by_cases c1:j < odd.length
  ·by_cases c2:j < 10
   ·have hget:at_ tN odd (j:Int) = odd[j]:=atN tN odd j c1
    have hsz:=hs _ (List.getElem_mem c1)
    have hv:∀ v:Int,v = (if (100:Int) < (odd[j].2.1.size:Int) then (100:Int) else (odd[j].2.1.size:Int)) → 0 ≤ v ∧ v ≤ (odd[j].2.1.size:Int) ∧ v ≤ 100:=by
     intro v hv
     subst hv
     split <;> omega
    have hv:=hv _ rfl
    have hu:=f3_l6.eq_2 n l wide id s at' c odd t19 vs es ds (j:Int) acc k
    rw [dT (by omega),cond_true,dT (by omega)] at hu
    simp only [inRN,dT c1,cond_true,hget,wS j (by omega)] at hu
    rw [cut_ok _ _ hv.1 (by omega),cond_true,appOk _ _ (by simp; omega),cond_true] at hu
    obtain ⟨short,b1,b2⟩:=ih k (j + 1) _ (by omega) (by omega) (by omega) (show (acc ++ [(odd[j].1,cutS odd[j].2.1 none (some (if (100:Int) < (odd[j].2.1.size:Int) then (100:Int) else (odd[j].2.1.size:Int))),())]).length ≤ j + 1 by simp; omega) (by
     intro x hx
     rcases List.mem_append.1 hx with hx | hx
     ·exact h5 x hx
     ·rw [List.mem_singleton.1 hx]
      have:=cutS_size odd[j].2.1 (if (100:Int) < (odd[j].2.1.size:Int) then (100:Int) else (odd[j].2.1.size:Int))
      show (cutS _ none (some _)).size ≤ 100
      omega)
    exact ⟨short,hu.trans b1,b2⟩
   ·refine ⟨acc,?_,by omega,h5⟩
    unfold f3_l6
    rw [dT (show (j:Int) < (odd.length:Int) by omega),cond_true,dF (show ¬ (j:Int) < 10 by omega)]
    rfl
  ·refine ⟨acc,?_,by omega,h5⟩
   unfold f3_l6
   rw [dF (by omega)]
   rfl
theorem page_size (vs:List Vx) (es:List Ed) (ds:List Int) (id:Int) (h1:vs.length ≤ 1099511627776) (h2:es.length ≤ 1099511627776) (h3:ds.length ≤ 1099511627776):∃ r:ByteArray × Int × Unit,f19 (vs,es,ds,()) id = some r ∧ f20 (vs,es,ds,()) id = some r ∧ r.1.size ≤ 65536:=by
 have hs:=page_same vs es ds id h1 h2 h3
 rcases page_p vs es ds id h1 h2 h3 with ⟨a1,v,hi,a2,a4⟩ | ⟨a1,a2⟩
 ·have h:=ok_of _ _ _ a1
  refine ⟨_,a4,hs.trans a4,?_⟩
  have h4:=encs_size _ (pageN_small h hi)
  have h5:=pageN_len h v
  rw [a2] at h4 h5
  show (encs (pageN v (atE es id))).size ≤ 65536
  omega
 ·exact ⟨_,a2,hs.trans a2,by show (⟨#[]⟩:ByteArray).size ≤ 65536; decide⟩
theorem pages_loop (t4 t6 t7:Int) (t19:Bool) (t20 t27:List En) (t108:List Gr) (t109 t110:Int) (ids:List Int) (hl:ids.length ≤ 100) (vs:List Vx) (es:List Ed) (ds:List Int) (h1:vs.length ≤ 1099511627776) (h2:es.length ≤ 1099511627776) (h3:ds.length ≤ 1099511627776):∀ (m k j:Nat) (r:List ByteArray),ids.length - j ≤ m → m < k → r.length + ids.length ≤ 1000 + j → smT r →
  ∃ r',f3_l20 t4 t6 t7 t19 t20 t27 t108 t109 t110 ids (ids.length:Int) vs es ds k (j:Int) r = some (.inl ((t4,t6,t7,t19,t20,t27,t108,t109,t110,()),(),(r',()))) ∧ r'.length ≤ r.length + (ids.length - j) ∧ smT r':=by
 intro m
 induction m with
 | zero =>
  intro k j r a1 a2 a3 a4
  obtain ⟨k,rfl⟩:∃ q,k = q + 1:=⟨k - 1,by omega⟩
  refine ⟨r,?_,by omega,a4⟩
  unfold f3_l20
  rw [dF (by omega)]
  rfl
 | succ m ih =>
  intro k j r a1 a2 a3 a4
  obtain ⟨k,rfl⟩:∃ q,k = q + 1:=⟨k - 1,by omega⟩
  by_cases hj:j < ids.length
  ·have hget:at_ tI ids (j:Int) = ids[j]:=atN tI ids j hj
   obtain ⟨p,q1,q2,q3⟩:=page_size vs es ds ids[j] h1 h2 h3
   have hu:=f3_l20.eq_2 t4 t6 t7 t19 t20 t27 t108 t109 t110 ids (ids.length:Int) vs es ds (j:Int) r k
   rw [dT (by omega),cond_true] at hu
   simp only [inRN,dT hj,cond_true,hget,wS j (by omega)] at hu
   obtain ⟨r',b1,b2,b3⟩:=ih k (j + 1) (r ++ [p.1]) (by omega) (by omega) (by simp; omega) (by
    intro x hx
    rcases List.mem_append.1 hx with hx | hx
    ·exact a4 x hx
    ·rw [List.mem_singleton.1 hx]; exact q3)
   refine ⟨r',hu.trans (bind_step q1 (bind_step q2 ?_)),by simp at b2; omega,b3⟩
   rw [dT (rfl:p.1 = p.1),dF (show ¬ p.2.1 ≠ p.2.1 from fun h=>h rfl),appOk _ _ (by simp; omega)]
   exact b1
  ·refine ⟨r,?_,by omega,a4⟩
   unfold f3_l20
   rw [dF (by omega)]
   rfl
theorem join_both {l:List En} (hs:szOk l) (hl:l.length ≤ 1099511627776):∃ vs es ds e,f22 l = some ((vs,es,ds,()),e,()) ∧ f23 l = some ((vs,es,ds,()),e,()) ∧ vs.length ≤ 1000 ∧ es.length ≤ 1000 ∧ ds.length ≤ 1000:=by
 by_cases h:∃ g:Gr,valid g = true ∧ entsG g.1 g.2.1 g.2.2.1 = l
 ·obtain ⟨⟨vs,es,ds,u⟩,h1,h2⟩:=h
  subst h2
  have hok:=ok_of _ _ _ h1
  have n1:=hok.nv
  have n2:=hok.ne
  have n3:=hok.dl
  exact ⟨vs,es,ds,0,join_yes h1,rjoin_yes h1,by omega,by omega,by omega⟩
 ·exact ⟨[],[],[],60,join_no hs (fun g h1 h2=>h ⟨g,h1,h2⟩),rjoin_no hs hl (fun g h1 h2=>h ⟨g,h1,h2⟩),by simp,by simp,by simp⟩
theorem joins_loop (t4 t6 t7:Int) (t19:Bool) (t20:List En) (t108:List Gr) (t109 t110:Int) (xs:List (List En)) (hl:xs.length ≤ 100) (hx:∀ x ∈ xs,szOk x ∧ x.length ≤ 1099511627776) (r:List ByteArray):∀ (m k j:Nat),xs.length - j ≤ m → m < k →
  f3_l31 t4 t6 t7 t19 t20 t108 t109 t110 xs (xs.length:Int) r k (j:Int) = some (.inl ((t4,t6,t7,t19,t20,t108,t109,t110,()),(),(r,()))):=by
 intro m
 induction m with
 | zero =>
  intro k j a1 a2
  obtain ⟨k,rfl⟩:∃ q,k = q + 1:=⟨k - 1,by omega⟩
  unfold f3_l31
  rw [dF (by omega)]
  rfl
 | succ m ih =>
  intro k j a1 a2
  obtain ⟨k,rfl⟩:∃ q,k = q + 1:=⟨k - 1,by omega⟩
  by_cases hj:j < xs.length
  ·have hget:at_ (.sl tN) xs (j:Int) = xs[j]:=atN (.sl tN) xs j hj
   obtain ⟨vs,es,ds,e,q1,q2,q3,q4,q5⟩:=join_both (hx _ (List.getElem_mem hj)).1 (hx _ (List.getElem_mem hj)).2
   have hu:=f3_l31.eq_2 t4 t6 t7 t19 t20 t108 t109 t110 xs (xs.length:Int) r (j:Int) k
   rw [dT (by omega),cond_true] at hu
   simp only [inRN,dT hj,cond_true,hget,wS j (by omega)] at hu
   refine hu.trans (bind_step q1 (bind_step q2 ?_))
   show (bif decide (e ≠ e) then _ else (f24 (vs,es,ds,()) (vs,es,ds,())).bind _) = _
   rw [dF (fun h=>h rfl),cond_false]
   refine bind_step (f24_eq vs vs es es ds ds (by omega) (by omega) (by omega)) ?_
   show (bif (!(decide (vs = vs) && (decide (es = es) && decide (ds = ds)))) then _ else f3_l31 t4 t6 t7 t19 t20 t108 t109 t110 xs (xs.length:Int) r k ((j + 1:Nat):Int)) = _
   rw [dT rfl,dT rfl,dT rfl]
   exact ih k (j + 1) (by omega) (by omega)
  ·unfold f3_l31
   rw [dF (by omega)]
   rfl
theorem graphs_step (t4 t6 t7:Int) (h4:i64 t4) (h6:i64 t6) (t19:Bool) (short:List En) (hsh:short.length ≤ 10) (hss:∀ x ∈ short,x.2.1.size ≤ 100) (gs:List Gr) (t109:Int) (hl:gs.length ≤ 100) (j:Nat) (hj:j < gs.length) (h109:t109 = (gs.length:Int)) (hg:SmallG gs[j]) (k:Nat) (r:List ByteArray) (hr:r.length ≤ 500) (hrs:smT r) :
  ∃ r',f3_l11 (k + 1) t4 t6 t7 t19 short gs t109 (j:Int) r = f3_l11 k t4 t6 t7 t19 short gs t109 ((j + 1:Nat):Int) r' ∧ r'.length ≤ r.length + 3 ∧ smT r':=by
 have hget:at_ tG gs (j:Int) = gs[j]:=atN tG3 gs j hj
 obtain ⟨⟨vs,es,ds,u⟩,hgj⟩:∃ g:Gr,gs[j] = g:=⟨_,rfl⟩
 rw [hgj] at hget hg
 have g1:vs.length ≤ 1099511627776:=Nat.le_trans hg.v (by omega)
 have g2:es.length ≤ 1099511627776:=Nat.le_trans hg.e (by omega)
 have g3:ds.length ≤ 1099511627776:=Nat.le_trans hg.d (by omega)
 have hu:=f3_l11.eq_2 t4 t6 t7 t19 short gs t109 (j:Int) r k
 rw [h109,dT (show (j:Int) < (gs.length:Int) by omega),cond_true] at hu
 simp only [inRN,dT hj,cond_true,hget] at hu
 obtain ⟨rt,q1,q2⟩:=root_same vs es ds g1 g2 g3
 obtain ⟨b,hb⟩:∃ b:List En × Int × Unit,b = (if valid (vs,es,ds,()) = true then (entsG vs es ds,0,()) else ([],60,())):=⟨_,rfl⟩
 have p1:=entries_all_p vs es ds g1 g2 g3
 have p2:=entries_all_r vs es ds g1 g2 g3
 rw [← hb] at p1 p2
 have hbl:b.1.length ≤ 25 ∧ ∀ x ∈ b.1,x.2.1.size ≤ 65536:=by
  rw [hb]
  split
  ·rename_i hv
   have hok:=ok_of _ _ _ hv
   exact ⟨ents_len hok,fun x hx=>((ents_valid hok).val x hx).2⟩
  ·exact ⟨by simp,fun x hx=>by simp at hx⟩
 rw [h109]
 have hu1:=hu.trans (bind_step p1 (bind_step p2 (bind_step q1 (bind_step q2 rfl))))
 rw [dF (show ¬ b.2.1 ≠ b.2.1 from fun h=>h rfl),cond_false,dF (show ¬ rt.2.1 ≠ rt.2.1 from fun h=>h rfl),cond_false,dT (rfl:rt.1 = rt.1)] at hu1
 have hu2:=hu1.trans (bind_step (f17_eq b.1 b.1 (by omega)) rfl)
 have hu3:=hu2.trans (show _ = _ from congrArg (fun x:Bool=>bif (!x) then _ else _) (dT (rfl:b.1 = b.1)))
 have hu4:=hu3.trans (bind_step (f18_eq t4 12 h4 (by omega)) rfl)
 obtain ⟨r1,a1,a2,a3⟩:=pages_loop t4 t6 t7 t19 short b.1 gs (gs.length:Int) (j:Int) [t4,pkV t4 12] (by simp) vs es ds g1 g2 g3 2 (((([t4,pkV t4 12]:List Int).length:Int) - (0:Int)).toNat + 1) 0 r (by simp) (by simp) (by simp; omega) hrs
 have hu5:=hu4.trans (bind_step a1 rfl)
 simp only [List.length_cons,List.length_nil] at a2
 have hjoin:∀ (y:List En),y.length ≤ b.1.length → (∀ x ∈ y,x.2.1.size ≤ 65536) → ∀ r2:List ByteArray,f3_l31 t4 t6 t7 t19 short gs (gs.length:Int) (j:Int) [short,b.1,y] (([short,b.1,y]:List (List En)).length:Int) r2 (((([short,b.1,y]:List (List En)).length:Int) - (0:Int)).toNat + 1) 0 = some (.inl ((t4,t6,t7,t19,short,gs,(gs.length:Int),(j:Int),()),(),(r2,()))):=by
  intro y hy1 hy2 r2
  refine joins_loop t4 t6 t7 t19 short gs (gs.length:Int) (j:Int) [short,b.1,y] (by simp) (fun x hx=>?_) r2 3 _ 0 (by simp) (by simp)
  simp only [List.mem_cons,List.not_mem_nil,or_false] at hx
  rcases hx with rfl | rfl | rfl
  ·exact ⟨fun e he=>by have:=hss e he; omega,by omega⟩
  ·exact ⟨fun e he=>by have:=hbl.2 e he; omega,by omega⟩
  ·exact ⟨fun e he=>by have:=hy2 e he; omega,by omega⟩
 obtain ⟨y,s1,s2,s3⟩:=f21_eq b.1 t6 t7 h6 (by omega) hbl.2
 by_cases h0:b.1.length > 0
 ·have w1:IntKind.wrap .i64 ((b.1.length:Int) - (1:Int)) = ((b.1.length - 1:Nat):Int):=by rw [wrap_i64 _ (by omega) (by omega)]; omega
  have hlast:at_ tN b.1 ((b.1.length - 1:Nat):Int) = b.1[b.1.length - 1]:=atN tN b.1 (b.1.length - 1) (by omega)
  refine ⟨r1 ++ [b.1[b.1.length - 1].2.1],hu5.trans ?_,by simp; omega,fun x hx=>?_⟩
  ·show (bif decide ((b.1.length:Int) > 0) then (bif inR (IntKind.wrap .i64 ((b.1.length:Int) - (1:Int))) b.1.length then (bif decide (r1.length + ([(at_ tN b.1 (IntKind.wrap .i64 ((b.1.length:Int) - (1:Int)))).2.1]:List ByteArray).length ≤ appLim) then (f21 b.1 t6 t7).bind (fun y47=>(f3_l31 t4 t6 t7 t19 short gs (gs.length:Int) (j:Int) [short,b.1,y47.1] (([short,b.1,y47.1]:List (List En)).length:Int) (r1 ++ [(at_ tN b.1 (IntKind.wrap .i64 ((b.1.length:Int) - (1:Int)))).2.1]) (((([short,b.1,y47.1]:List (List En)).length:Int) - (0:Int)).toNat + 1) 0).bind _) else none) else none) else _) = _
   rw [dT (by omega),cond_true,w1,inRN,dT (by omega),cond_true,hlast,appOk _ _ (by simp; omega),cond_true]
   refine bind_step s1 ?_
   refine bind_step (hjoin y s2 s3 _) ?_
   show f3_l11 k t4 t6 t7 t19 short gs (gs.length:Int) (IntKind.wrap .i64 ((j:Int) + 1)) _ = _
   rw [wS j (by omega)]
  ·rcases List.mem_append.1 hx with hx | hx
   ·exact a3 x hx
   ·rw [List.mem_singleton.1 hx]
    exact hbl.2 _ (List.getElem_mem _)
 ·refine ⟨r1,hu5.trans ?_,by omega,a3⟩
  show (bif decide ((b.1.length:Int) > 0) then _ else (f21 b.1 t6 t7).bind (fun y47=>(f3_l31 t4 t6 t7 t19 short gs (gs.length:Int) (j:Int) [short,b.1,y47.1] (([short,b.1,y47.1]:List (List En)).length:Int) r1 (((([short,b.1,y47.1]:List (List En)).length:Int) - (0:Int)).toNat + 1) 0).bind _)) = _
  rw [dF (by omega),cond_false]
  refine bind_step s1 ?_
  refine bind_step (hjoin y s2 s3 _) ?_
  show f3_l11 k t4 t6 t7 t19 short gs (gs.length:Int) (IntKind.wrap .i64 ((j:Int) + 1)) _ = _
  rw [wS j (by omega)]
theorem graphs_loop (t4 t6 t7:Int) (h4:i64 t4) (h6:i64 t6) (t19:Bool) (short:List En) (hsh:short.length ≤ 10) (hss:∀ x ∈ short,x.2.1.size ≤ 100) (gs:List Gr) (hl:gs.length ≤ 100) (hg:∀ g ∈ gs,SmallG g):∀ (m k j:Nat) (r:List ByteArray),gs.length - j ≤ m → m < k → r.length + 3 * m ≤ 500 → smT r →
  ∃ r',f3_l11 k t4 t6 t7 t19 short gs (gs.length:Int) (j:Int) r = some (.inl ((t6,t7,t19,()),(),(r',()))) ∧ r'.length ≤ r.length + 3 * m ∧ smT r':=by
 intro m
 induction m with
 | zero =>
  intro k j r a1 a2 a3 a4
  obtain ⟨k,rfl⟩:∃ q,k = q + 1:=⟨k - 1,by omega⟩
  refine ⟨r,?_,by omega,a4⟩
  unfold f3_l11
  rw [dF (by omega)]
  rfl
 | succ m ih =>
  intro k j r a1 a2 a3 a4
  obtain ⟨k,rfl⟩:∃ q,k = q + 1:=⟨k - 1,by omega⟩
  by_cases hj:j < gs.length
  ·obtain ⟨r1,b1,b2,b3⟩:=graphs_step t4 t6 t7 h4 h6 t19 short hsh hss gs (gs.length:Int) hl j hj rfl (hg _ (List.getElem_mem hj)) k r (by omega) a4
   obtain ⟨r2,c1,c2,c3⟩:=ih k (j + 1) r1 (by omega) (by omega) (by omega) b3
   exact ⟨r2,b1.trans c1,by omega,c3⟩
  ·refine ⟨r,?_,by omega,a4⟩
   unfold f3_l11
   rw [dF (by omega)]
   rfl
theorem spoil_loop (t6 t7:Int) (h6:i64 t6) (t19:Bool) (n:Nat):∀ (m k j:Nat) (r:List ByteArray),n - j ≤ m → m < k → n ≤ r.length → r.length + m ≤ 2000 → smT r →
  ∃ r',f3_l41 t6 t7 t19 (n:Int) k (j:Int) r = some ((t19,()),(),(r',())) ∧ r'.length ≤ r.length + m ∧ smT r':=by
 intro m
 induction m with
 | zero =>
  intro k j r a1 a2 a3 a4 a5
  obtain ⟨k,rfl⟩:∃ q,k = q + 1:=⟨k - 1,by omega⟩
  refine ⟨r,?_,by omega,a5⟩
  unfold f3_l41
  rw [dF (by omega)]
  rfl
 | succ m ih =>
  intro k j r a1 a2 a3 a4 a5
  obtain ⟨k,rfl⟩:∃ q,k = q + 1:=⟨k - 1,by omega⟩
  by_cases hj:j < n
  ·have hjr:j < r.length:=by omega
   have hget:at_ .str r (j:Int) = r[j]:=atN .str r j hjr
   have hu:=f3_l41.eq_2 t6 t7 t19 (n:Int) (j:Int) r k
   rw [dT (by omega),cond_true] at hu
   simp only [inRN,dT hjr,cond_true,hget,wS j (by omega)] at hu
   have hsz:=a5 _ (List.getElem_mem hjr)
   by_cases c:r[j].size = 0
   ·rw [dF (by omega),cond_false] at hu
    obtain ⟨r2,c1,c2,c3⟩:=ih k (j + 1) r (by omega) (by omega) (by omega) (by omega) a5
    exact ⟨r2,hu.trans c1,by omega,c3⟩
   ·rw [dT (by omega),cond_true] at hu
    have hlen:(toBytes r[j]).length = r[j].size:=toBytes_len _
    have p:=f18_eq t6 ((toBytes r[j]).length:Int) h6 (by omega)
    have q:=pkV_rng t6 ((toBytes r[j]).length:Int) (by omega)
    have hin:inR (pkV t6 ((toBytes r[j]).length:Int)) (toBytes r[j]).length = true:=by
     unfold inR
     simp only [Bool.and_eq_true,decide_eq_true_eq]
     exact ⟨q.1,q.2⟩
    obtain ⟨r2,c1,c2,c3⟩:=ih k (j + 1) (r ++ [ofBytes ((toBytes r[j]).set (Int.toNat (pkV t6 ((toBytes r[j]).length:Int))) t7)]) (by omega) (by omega) (by simp; omega) (by simp; omega) (by
     intro x hx
     rcases List.mem_append.1 hx with hx | hx
     ·exact a5 x hx
     ·rw [List.mem_singleton.1 hx,ofBytes_size,List.length_set,hlen]
      exact hsz)
    refine ⟨r2,hu.trans (bind_step p ?_),by simp at c2; omega,c3⟩
    simp only [hin,cond_true]
    rw [appOk _ _ (by simp; omega)]
    exact c1
  ·refine ⟨r,?_,by omega,a5⟩
   unfold f3_l41
   rw [dF (by omega)]
   rfl
theorem same_texts (t19:Bool) (r:List ByteArray) (hl:r.length ≤ 5000) (hs:smT r):∀ (m k j:Nat),r.length - j ≤ m → m < k → f3_l48 t19 r k (j:Int) = some (.inl ((t19,()),(),())):=by
 intro m
 induction m with
 | zero =>
  intro k j a1 a2
  obtain ⟨k,rfl⟩:∃ q,k = q + 1:=⟨k - 1,by omega⟩
  unfold f3_l48
  rw [dF (by omega)]
  rfl
 | succ m ih =>
  intro k j a1 a2
  obtain ⟨k,rfl⟩:∃ q,k = q + 1:=⟨k - 1,by omega⟩
  by_cases hj:j < r.length
  ·have hget:at_ .str r (j:Int) = r[j]:=atN .str r j hj
   have hsz:=hs _ (List.getElem_mem hj)
   have hu:=f3_l48.eq_2 t19 r (j:Int) k
   rw [dT (by omega),cond_true] at hu
   simp only [inRN,dT hj,cond_true,hget,wS j (by omega)] at hu
   have e1:=f25_eq r[j] (by omega)
   have e2:=f26_eq r[j] (by omega)
   have e3:=f27_eq r[j] (by omega)
   have e4:=f28_eq r[j] (by omega)
   have hlE:(parsed (parse (nbytes r[j]))).2.1.length ≤ 40:=by
    cases hp:parse (nbytes r[j]) with
    | none=>exact Nat.zero_le _
    | some x=>exact parse_len (v:=x.1) (es:=x.2) hp
   have hlD:(parsedH (parseH (nbytes r[j]))).1.length ≤ 3:=by
    cases hp:parseH (nbytes r[j]) with
    | none=>exact Nat.zero_le _
    | some x=>exact parseH_len (ds:=x.1) (n:=x.2) hp
   generalize parsed (parse (nbytes r[j])) = p at e1 e2 hlE
   generalize parsedH (parseH (nbytes r[j])) = q at e3 e4 hlD
   refine hu.trans (bind_step e1 (bind_step e2 (bind_step e3 (bind_step e4 ?_))))
   rw [vx_eq,dT (rfl:p.1 = p.1),dF (show ¬ p.2.2.1 ≠ p.2.2.1 from fun h=>h rfl),dF (show ¬ q.2.1 ≠ q.2.1 from fun h=>h rfl),dF (show ¬ q.2.2.1 ≠ q.2.2.1 from fun h=>h rfl)]
   simp only [Bool.not_true,cond_false]
   refine bind_step (edges_eq29 p.2.1 p.2.1 (by omega)) ?_
   simp only [decide_true,Bool.not_true,cond_false]
   refine bind_step (f30_eq q.1 q.1 (by omega)) ?_
   simp only [decide_true,Bool.not_true,cond_false]
   exact ih k (j + 1) (by omega) (by omega)
  ·unfold f3_l48
   rw [dF (by omega)]
   rfl
theorem f3_eq (raw:Gr) (n:Int) (l:List (List Int)) (wide:Bool) (id:Int) (s:ByteArray) (at' c:Int) (odd:List En) (r1:raw.1.length ≤ 9223372036854775807) (r2:raw.2.1.length ≤ 9223372036854775807) (r3:raw.2.2.1.length ≤ 9223372036854775807) (hn:i64 n) (hl:∀ r ∈ l,∀ x ∈ r,i64 x) (hll:l.length ≤ 9223372036854775807) (hid:i64 id) (hs:s.size ≤ 9223372036854775807) (hat:i64 at') (ho:∀ x ∈ odd,x.2.1.size ≤ 9223372036854775807) :
  f3 raw n l wide id s at' c odd = some (true,()):=by
 obtain ⟨vs,es,ds,h12,hv,_⟩:=made_valid n l wide hn hl hll
 have h:=ok_of _ _ _ hv
 have n1:=h.nv
 have n2:=h.ne
 have n3:=h.dl
 obtain ⟨g',h11,hg'⟩:=few_eq raw r1 r2 r3
 obtain ⟨short,a1,a2,a3⟩:=short_loop n l wide id s at' c true raw.1 raw.2.1 raw.2.2.1 odd ho 10 (((odd.length:Int) - (0:Int)).toNat + 1) 0 [] (by omega) (by omega) (by omega) (by simp) (fun x hx=>by simp at hx)
 unfold f3
 refine bind_step sane_eq ?_
 refine bind_step a1 ?_
 have hv3:∀ v:Int,v = (if (300:Int) < (s.size:Int) then (300:Int) else (s.size:Int)) → 0 ≤ v ∧ v ≤ (s.size:Int) ∧ v ≤ 300:=by
  intro v hv
  subst hv
  split <;> omega
 have hv3:=hv3 _ rfl
 obtain ⟨r,b1,b2,b3⟩:=graphs_loop id at' c hid hat true short a2 a3 [g',(vs,es,ds,())] (by simp) (fun g hg=>by
  rcases List.mem_cons.1 hg with rfl | hg
  ·exact hg'
  ·rw [List.mem_singleton.1 hg]
   exact ⟨by show vs.length ≤ _; omega,by show es.length ≤ _; omega,by show ds.length ≤ _; omega⟩) 2 (((([g',(vs,es,ds,())]:List Gr).length:Int) - (0:Int)).toNat + 1) 0 [cutS s none (some (if (300:Int) < (s.size:Int) then (300:Int) else (s.size:Int)))] (by simp) (by simp) (by simp) (by
   intro x hx
   rw [List.mem_singleton.1 hx]
   have:=cutS_size s (if (300:Int) < (s.size:Int) then (300:Int) else (s.size:Int))
   omega)
 show (bif (cutOk s.size none (some (if (300:Int) < (s.size:Int) then (300:Int) else (s.size:Int)))) then (f11 raw).bind _ else none) = _
 rw [cut_ok _ _ hv3.1 (by omega),cond_true]
 refine bind_step h11 (bind_step h12 ?_)
 refine bind_step b1 ?_
 simp only [List.length_singleton] at b2
 obtain ⟨r',c1,c2,c3⟩:=spoil_loop at' c hat true r.length r.length (((r.length:Int) - (0:Int)).toNat + 1) 0 r (by omega) (by omega) (Nat.le_refl _) (by omega) b3
 refine bind_step c1 ?_
 have d1:=same_texts true r' (by omega) c3 r'.length (((r'.length:Int) - (0:Int)).toNat + 1) 0 (by omega) (by omega)
 refine bind_step d1 ?_
 rfl
theorem f3_all (x:tysDen f3_spec.args) (h:tysOk f3_spec.args x):f3_spec.fn x = some (true,()):=by
 obtain ⟨raw,n,l,wide,id,s,a,c,odd,u⟩:=x
 obtain ⟨hr,h1,h2,_,h3,h4,h5,_,h6,_⟩:=h
 exact f3_eq raw n l wide id s a c odd (len_le hr.1.1) (len_le hr.2.1.1) (len_le hr.2.2.1.1) (i64_of h1) (rows_of h2).2 (rows_of h2).1 (i64_of h3) (len_le h4) (i64_of h5) (fun x hx=>len_le (h6.2 x hx).2.1)
end Go.V.G
