/- Part of the proof. -/
import Derived.Sort.LoopGhostIn
import Derived.Test.YtmhokhkmopghjaaGreatDoorA4
set_option linter.all false
set_option linter.unusedVariables false
set_option linter.unusedSectionVars false
set_option linter.unusedSimpArgs false
namespace Go.V
variable [Codes]
theorem zcD (acc:List Nat) (t:Nat):∀ (l:List Nat) (m:Nat),Nat.testBit (l.foldl (fun m j=>m ||| (1 <<< j) ||| acc.getD j 0) m) t = true→Nat.testBit m t = true ∨ ∃ j∈l,j = t ∨ Nat.testBit (acc.getD j 0) t = true
 | [],m,h=>.inl h
 | j :: l,m,h=>by
  simp only [List.foldl_cons] at h
  rcases zcD acc t l _ h with h | ⟨k,hk,h⟩
  ·rw [Nat.testBit_or,Nat.testBit_or,Bool.or_eq_true,Bool.or_eq_true] at h
   rcases h with (h | h) | h
   ·exact .inl h
   ·rw [Nat.one_shiftLeft,Nat.testBit_two_pow] at h
    exact .inr ⟨j,by simp,.inl (of_decide_eq_true h)⟩
   ·exact .inr ⟨j,by simp,.inr h⟩
  ·exact .inr ⟨k,by simp [hk],h⟩
theorem zfV:∀ (l:List Oper) (acc:List Nat),(masks l acc).length = acc.length + l.length∧(∀ k,k < acc.length→(masks l acc).getD k 0 = acc.getD k 0) ∧
  ∀ k o,l[k]? = some o→∃ pre,pre.length = acc.length + k∧(∀ j,j < acc.length + k→pre.getD j 0 = (masks l acc).getD j 0)∧(masks l acc).getD (acc.length + k) 0 = zgt pre (deps o)
 | [],acc=>⟨rfl,fun _ _=>rfl,fun k o h=>by simp at h⟩
 | x :: l,acc=>by
  obtain ⟨h1,h2,h3⟩:=zfV l (acc++[zgt acc (deps x)])
  have e:masks (x :: l) acc = masks l (acc++[zgt acc (deps x)]):=rfl
  rw [e]
  have hold:∀ k,k < acc.length→(acc++[zgt acc (deps x)]).getD k 0 = acc.getD k 0:=fun k hk=>by
   simp only [List.getD,List.getElem?_append_left hk]
  refine ⟨by rw [h1]; simp; omega,fun k hk=>by rw [h2 k (by simp; omega),hold k hk],fun k o ho=>?_⟩
  cases k with
  | zero =>
   simp only [List.getElem?_cons_zero,sI] at ho
   subst ho
   refine ⟨acc,rfl,fun j hj=>?_,?_⟩
   ·rw [h2 j (by simp; omega),hold j (by omega)]
   ·rw [Nat.add_zero,h2 acc.length (by simp)]
    simp [List.getD]
  | succ k =>
   obtain ⟨pre,p1,p2,p3⟩:=h3 k o (by simpa using ho)
   have el:(acc++[zgt acc (deps x)]).length + k = acc.length + (k + 1):=by simp; omega
   rw [el] at p1 p2 p3
   exact ⟨pre,p1,p2,p3⟩
theorem zhC {p:Nat→Prop} (h:∃ n,p n):∃ n,p n∧∀ m,p m→n≤m:=by
 obtain ⟨n,hn⟩:=h
 induction n using Nat.strongRecOn with
 | _ n ih =>
  by_cases hm:∃ m,m < n∧p m
  ·obtain ⟨m,hlt,hp⟩:=hm
   exact ih m hlt hp
  ·exact ⟨n,hn,fun m hp=>Nat.le_of_not_lt fun hlt=>hm ⟨m,hlt,hp⟩⟩
section
variable {P:Program} {E:Env0} {R:Type}
structure DrawOK (ops:Array Oper):Prop where
 deps:∀ i x,ops[i]? = some x→∀ j∈deps x,j < i
 pair:∀ i x j y,ops[i]? = some x→ops[j]? = some y→i < j→zea ops (masks ops.toList []) i x j y = true
theorem zfW {ops:Array Oper} {ms:List Nat} {i:Nat} {x:Oper}:∀ {l:List Oper} {j:Nat},zg6 ops ms i x j l = true→∀ k y,l[k]? = some y→zea ops ms i x (j + k) y = true
 | [],_,_,k,y,h=>by simp at h
 | z :: l,j,h,k,y,hy=>by
  simp only [zg6,sA] at h
  cases k with
  | zero=>simp only [List.getElem?_cons_zero,sI] at hy; subst hy; exact h.1
  | succ k =>
   have:=zfW h.2 k y (by simpa using hy)
   rwa [show j + (k + 1) = j + 1 + k by omega]
theorem zfX {ops:Array Oper} {ms:List Nat}:∀ {l:List Oper} {i:Nat},allOk ops ms i l = true→∀ k x,l[k]? = some x →
  (∀ j∈V.deps x,j < i + k)∧∀ m y,k < m→l[m]? = some y→zea ops ms (i + k) x (i + m) y = true
 | [],_,_,k,x,h=>by simp at h
 | z :: l,i,h,k,x,hx=>by
  simp only [allOk,sA] at h
  cases k with
  | zero =>
   simp only [List.getElem?_cons_zero,sI] at hx
   subst hx
   refine ⟨fun j hj=>Nat.le_of_ble_eq_true (List.all_eq_true.1 h.1.1 j hj),fun m y hm hy=>?_⟩
   cases m with
   | zero=>omega
   | succ m =>
    have:=zfW h.1.2 m y (by simpa using hy)
    rwa [show i + (m + 1) = i + 1 + m by omega]
  | succ k =>
   obtain ⟨h1,h2⟩:=zfX h.2 k x (by simpa using hx)
   refine ⟨fun j hj=>by have:=h1 j hj; omega,fun m y hm hy=>?_⟩
   cases m with
   | zero=>omega
   | succ m =>
    have:=h2 m y (by omega) (by simpa using hy)
    rwa [show i + (k + 1) = i + 1 + k by omega,show i + (m + 1) = i + 1 + m by omega]
theorem zmh {ops:Array Oper} (h:zlj ops = true):DrawOK ops where
 deps:=fun i x hx=>by
  have:=(zfX h i x (by rw [Array.getElem?_toList]; exact hx)).1
  rwa [Nat.zero_add] at this
 pair:=fun i x j y hx hy hij=>by
  have:=(zfX h i x (by rw [Array.getElem?_toList]; exact hx)).2 j y hij (by rw [Array.getElem?_toList]; exact hy)
  rwa [Nat.zero_add,Nat.zero_add] at this
theorem zfY {ops:Array Oper} (hD:∀ i x,ops[i]? = some x→∀ j∈deps x,j < i) {S:Nat→Prop} (hS:∀ k o,ops[k]? = some o→S k→∀ j∈deps o,S j):∀ (n j:Nat),j≤n→∀ o,ops[j]? = some o→(∀ d∈deps o,S d)→∀ i,ahead (masks ops.toList []) i j = true→S i:=by
 intro n
 induction n with
 | zero =>
  intro j hj o ho hd i ha
  have:j = 0:=by omega
  subst this
  obtain ⟨_,_,h3⟩:=zfV ops.toList []
  obtain ⟨pre,p1,p2,p3⟩:=h3 0 o (by rw [Array.getElem?_toList]; exact ho)
  simp only [List.length_nil,Nat.add_zero] at p3
  unfold ahead at ha
  rw [p3] at ha
  rcases zcD pre i _ 0 ha with h | ⟨d,h1,h2⟩
  ·simp at h
  ·have:=hD 0 o ho d h1
   omega
 | succ n ih =>
  intro j hj o ho hd i ha
  obtain ⟨_,_,h3⟩:=zfV ops.toList []
  obtain ⟨pre,p1,p2,p3⟩:=h3 j o (by rw [Array.getElem?_toList]; exact ho)
  simp only [List.length_nil,Nat.zero_add] at p2 p3
  unfold ahead at ha
  rw [p3] at ha
  rcases zcD pre i _ 0 ha with h | ⟨d,h1,h2⟩
  ·simp at h
  ·have hlt:=hD j o ho d h1
   have hSd:=hd d h1
   rcases h2 with rfl | h2
   ·exact hSd
   ·rw [p2 d hlt] at h2
    have hj':j < ops.size:=(Array.getElem?_eq_some_iff.1 ho).1
    have hod:ops[d]? = some ops[d]:=Array.getElem?_eq_getElem (by omega)
    exact ih d (by omega) _ hod (hS d _ hod hSd) i h2
theorem zdG {ops:Array Oper} (hD:DrawOK ops) {S:Nat→Prop} (hS:∀ k o,ops[k]? = some o→S k→∀ j∈deps o,S j) (n j:Nat) (hn:j≤n) (o:Oper) (ho:ops[j]? = some o) (hd:∀ d∈deps o,S d) (i:Nat) (h:ahead (masks ops.toList []) i j = true):S i :=
 zfY hD.deps hS n j hn o ho hd i h
theorem zeU:∀ {l:List Nat} {env:Env} {t:Nat} {v:AV},find (restr env l) t = some v→t∈l∧find env t = some v
 | [],_,_,_,h=>nomatch h
 | u :: l,env,t,v,h=>by
  simp only [restr] at h
  split at h
  ·rename_i x hx
   by_cases hu:u = t
   ·subst hu
    rw [zad] at h
    cases h
    exact ⟨by simp,hx⟩
   ·rw [zab _ _ hu] at h
    obtain ⟨h1,h2⟩:=zeU h
    exact ⟨by simp [h1],h2⟩
  ·obtain ⟨h1,h2⟩:=zeU h
   exact ⟨by simp [h1],h2⟩
theorem zdH:∀ {l:List Nat} {env:Env} {t:Nat} {v:AV},t∈l→find env t = some v→find (restr env l) t = some v
 | u :: l,env,t,v,hm,h=>by
  simp only [restr]
  by_cases hu:u = t
  ·subst hu
   simp only [h,zad]
  ·have hm':t∈l:=(List.mem_cons.1 hm).resolve_left (Ne.symm hu)
   split
   ·rw [zab _ _ hu]; exact zdH hm' h
   ·exact zdH hm' h
def argsV (bx:Bxs):(l:List Ty)→List AV→Option (tysDen l)
 | [],[]=>some ()
 | T :: l,v :: vs=>match norm bx T v with
  | some x=>match argsV bx l vs with
   | some y=>some (x,y)
   | none=>none
  | none=>none
 | _,_=>none
theorem zer {bx:Bxs} {R:Type}:∀ {l:List Ty} {vs:List AV} {K:tysDen l→Option R},argsK bx l vs K = (argsV bx l vs).bind K
 | [],[],K=>rfl
 | [],_ :: _,K=>rfl
 | _ :: _,[],K=>rfl
 | T :: l,v :: vs,K=>by
  simp only [argsK,argsV]
  cases hn:norm bx T v with
  | none=>simp
  | some x =>
   simp only
   rw [zer]
   cases argsV bx l vs <;> rfl
def Yield (P:Program) (E:Env0) (o:Oper) (env:Env) (bxs:Bxs) (v:AV):Prop :=
 ∀ {F:Fence} {N:Nat},Wide F→∀ {g:Gh} {stk:List Env} {tm:Array Value} {tms:List (Array Value)} {w:World},StR g ⟨env,stk,bxs⟩ tm tms w→zay E.C g.fz→∀ (ds:List Deferred) {next:Act→World→Prop} {Q:Exit→Act→World→Prop},
  (∀ g' z w',VR g' v z→StR g' ⟨env,stk,bxs⟩ tm tms w'→Tr g w g' w'→next (Act.put ⟨tm,ds⟩ o.dst z) w')→o.wpIn F N P ⟨tm,ds⟩ w next Q
theorem zkl (hE:EnvOK P E) {base:Nat} {o:Oper} {s:St} {K:AV→Option R} {r:R} (h:exec0 E base o s K = some r):∃ v,K v = some r∧Yield P E o s.env s.bxs v:=by
 unfold exec0 at h
 split at h
 ·rename_i c a b hop
  split at h
  ·rename_i t hc
   have fin:∀ v,ev E.C s.env (if t = true then a else b) = some v→Yield P E o s.env s.bxs v:=by
    intro v hv F N hW g stk tm tms w hs hG ds next Q hn
    have hcv:[Act.eval ⟨tm,ds⟩ c] = [Value.bool t]:=ev_ok hs hG hc ds
    simp only [sC,and_true] at hcv
    have hr:(execOp (Act.eval ⟨tm,ds⟩) o).run P w = .ok (.value (Act.eval ⟨tm,ds⟩ (if t = true then a else b))) w:=by
     simp only [execOp,hop,hcv]
     cases t <;> simp [asBool]
    refine za0 hW (fun c hc=>by rw [hop] at hc; cases hc) ?_
    rw [hr,Oper.uponIn_value]
    exact hn g _ w (ev_ok hs hG hv ds) hs (Tr.refl _ _)
   cases t
   ·simp only [cond_false] at h
    split at h
    ·rename_i v hv; exact ⟨v,h,fin v hv⟩
    ·cases h
   ·simp only [cond_true] at h
    split at h
    ·rename_i v hv; exact ⟨v,h,fin v hv⟩
    ·cases h
  ·cases h
 ·rename_i f args ats hop
  split at h
  ·rename_i f' vs hf hvs
   split at h
   ·rename_i p hp
    rw [zer,Option.bind_eq_some_iff] at h
    obtain ⟨x,hx,h⟩:=h
    rw [Option.bind_eq_some_iff] at h
    obtain ⟨y,hy,hK⟩:=h
    refine ⟨_,hK,?_⟩
    intro F N hW g stk tm tms w hs hG ds next Q hn
    obtain ⟨cv,hcv,hcaps⟩:=ev_ok hs hG hf ds
    simp only [sC,and_true] at hcv
    have hv:=zdS hs hG ds hvs
    have hcv0:cv = #[]:=by
     obtain ⟨l⟩:=cv
     cases l with
     | nil=>rfl
     | cons a l=>exact hcaps.elim
    obtain ⟨h1,h2⟩:=hE.pure f' p hp
    have hr:(execOp (Act.eval ⟨tm,ds⟩) o).run P w = .ok (.enter f' (args.map (Act.eval ⟨tm,ds⟩))) w:=by
     simp only [execOp,hop,resolve,hcv,hcv0,Deferred.ofValue,Sem.run_bind,Sem.run_pure,Result.andThen_ok,invoke,Array.empty_append,Array.append_empty]
     exact zca h2 _ _
    refine za0 hW (fun c hc=>by rw [hop] at hc; cases hc) ?_
    rw [hr,Oper.uponIn_enter]
    refine ⟨hW.deep N,hW.calls.2 ?_⟩
    have hvm:∀ {l:List AV} {cs:List Value} {g':Gh},ExtBut none g g'→VsR g l cs→VsR g' l cs:=by
     intro l
     induction l with
     | nil=>intro cs g' _ h; cases cs <;> exact h
     | cons v l ih =>
      intro cs g' hx h
      cases cs with
      | nil=>exact h.elim
      | cons c cs=>exact ⟨h.1.grow hx,ih hx h.2⟩
    have harg:∀ {g':Gh} {bx:Bxs},BxR g' bx w→FzOK g' w→ExtBut none g g'→argsV bx p.args vs = some x→TVs g'.fz p.args x (args.map (Act.eval ⟨tm,ds⟩)).toList:=by
     intro g' bx hb hf he hx
     obtain ⟨x',e1,e2⟩:=zc3 (K:=some) (r:=x) hb.w hf (cs:=(args.map (Act.eval ⟨tm,ds⟩)).toList) (by rw [zer,hx]; rfl) (hvm he (by rw [Array.toList_map]; exact hv))
     cases e1
     exact e2
    cases hsc:p.res.all scalar with
    | true =>
     rw [hsc,cond_true] at hx
     obtain ⟨fz1,k1,t1⟩:=StR.frzKeys s.bxs hs
     have hxt:ExtBut none g ⟨fz1,g.bx⟩:=⟨t1.fz,fun _ _ _ h=>h,fun _ _ h _=>nomatch h⟩
     refine Calls.mono (h1 fz1 w _ x y (hG.mono t1.fz) k1.fz (harg k1.bxs k1.fz hxt hx) hy) ?_
     rintro e w' ⟨cs,fz2,rfl,h4,h5,t2⟩
     have hw:∀ b,b < w.heap.size→w'.heap[b]? = w.heap[b]?:=fun b hb=>t2.block b hb (not_owned _ _)
     exact hn g _ w' (TVs.scalar (fz':=g.fz) hsc h4).res (hs.grow hw) ⟨t2.os,t2.tape,t2.output,t2.size,fun _ _ _ h=>h,fun _ _ h=>.inl h,fun _ h=>.inl h,fun b hb _=>hw b hb⟩
    | false =>
     rw [hsc,cond_false] at hx
     refine Calls.mono (h1 g.fz w _ x y hG hs.fz (harg hs.bxs hs.fz (ExtBut.refl g) hx) hy) ?_
     rintro e w' ⟨cs,fz2,rfl,h4,h5,t2⟩
     have hw:∀ b,b < w.heap.size→w'.heap[b]? = w.heap[b]?:=fun b hb=>t2.block b hb (not_owned _ _)
     obtain ⟨h6,t3⟩:=hs.ghost (fz':=fz2) t2.fz (fun b o e=>by
      rcases t2.fzNew b o e with h | h | h
      ·exact .inl h
      ·exact .inr h
      ·exact (not_owned _ _ h).elim) h5 t2.os t2.tape t2.output t2.size hw
     exact hn ⟨fz2,g.bx⟩ _ w' h4.res h6 t3
   ·cases h
  ·cases h
 ·split at h
  ·rename_i c v hx
   cases c with
   | false=>simp at h
   | true =>
    simp only [cond_true] at h
    refine ⟨v,h,?_⟩
    intro F N hW g stk tm tms w hs hG ds next Q hn
    have hx':execA E.C base o ⟨s.env,stk,s.bxs⟩ = some (true,v,.none):=hx
    obtain ⟨n,w',g',h1,h2,h3,h4⟩:=zbL hE.cfg hs hG hx' ds
    refine za0 hW (zbb hx) ?_
    rw [h1]
    rcases h2 with ⟨z,rfl,h2⟩ | ⟨rfl,h2⟩
    ·rw [Oper.uponIn_value]
     exact hn g' z w' h2 h3 h4
    ·rw [Oper.uponIn_skip]
     exact hn g' undef w' h2 h3 h4
  ·cases h
def zmi (P:Program) (E:Env0) (ops:Array Oper) (o:Oper) (env:Env) (bxs:Bxs) (v:AV):Prop :=
 ∀ {F:Fence} {N:Nat},Wide F→∀ {g:Gh} {stk:List Env} {tm:Array Value} {tms:List (Array Value)} {w:World},StR g ⟨env,stk,bxs⟩ tm tms w→zay E.C g.fz→∀ (ds:List Deferred) {i:Nat} (_:ops[i]? = some o) {next:Act→World→Prop} {Q:Exit→Act→World→Prop},
  (∀ g' z w',VR g' v z→StR g' ⟨env,stk,bxs⟩ tm tms w'→Tr g w g' w'→next (Act.put ⟨tm,ds⟩ o.dst z) w')→wpOpIn F N P ops Q i next ⟨tm,ds⟩ w
theorem znq (hE:EnvOK P E) {base:Nat} {ops:Array Oper} {o:Oper} {s:St} {K:AV→St→Option R} {r:R} (h:execG E base ops o s K = some r) :
  ∃ v s1,K v s1 = some r∧s1.stk = s.stk∧s1.bxs = s.bxs∧(∀ t,find s1.env t = find s.env t)∧zmi P E ops o (restr s.env (looks ops o)) s.bxs v:=by
 have run:∀ {K0:AV→Option R},(∀ (tm:Array Value) (g:Gh),EnvR g (restr s.env (looks ops o)) tm→Region.wanted o (yielded ops tm) = true) →
   exec0 E base o { s with env:=restr s.env (looks ops o) } K0 = some r→∃ v,K0 v = some r∧zmi P E ops o (restr s.env (looks ops o)) s.bxs v:=by
  intro K0 hw h
  obtain ⟨v,h1,h2⟩:=zkl hE h
  refine ⟨v,h1,fun hW g stk tm tms w hs hG ds i hi next Q hn=>?_⟩
  unfold wpOpIn
  rw [hi]
  simp only
  rw [if_pos (hw _ _ hs.env)]
  exact h2 hW hs hG ds hn
 have skip:(∀ (tm:Array Value) (g:Gh),EnvR g (restr s.env (looks ops o)) tm→Region.wanted o (yielded ops tm) = false)→zmi P E ops o (restr s.env (looks ops o)) s.bxs (.tup []):=by
  intro hw F N hW g stk tm tms w hs hG ds i hi next Q hn
  unfold wpOpIn
  rw [hi]
  simp only
  rw [if_neg (by rw [hw _ _ hs.env]; decide)]
  exact ⟨fun f _=>hW.fn f,hn g undef w (skipR g) hs (Tr.refl _ _)⟩
 unfold execG at h
 split at h
 ·rename_i hg
  obtain ⟨v,h1,h2⟩:=run (fun tm g he=>by simp [Region.wanted,hg]) h
  exact ⟨v,s,h1,rfl,rfl,fun _=>rfl,h2⟩
 ·rename_i j want hg
  split at h
  ·rename_i d hj
   have hd:d∈looks ops o:=by
    unfold looks
    rw [hg]
    simp only [hj,Option.toList_some]
    exact List.mem_append_right _ (by simp)
   have hwd:∀ tm:Array Value,Region.wanted o (yielded ops tm) = (yielded ops tm j == some want):=fun tm=>by simp [Region.wanted,hg]
   have hy:∀ tm:Array Value,yielded ops tm j = match tm[d]? with | some (.bool b)=>some b | _=>none:=fun tm=>by unfold yielded; rw [hj]; rfl
   have same:∀ {v:AV},find s.env d = some v→∀ t,find ((d,v) :: s.env) t = find s.env t:=by
    intro v hv t
    by_cases ht:d = t
    ·subst ht; rw [zad,hv]
    ·rw [zab _ _ ht]
   split at h
   ·rename_i b hb
    have hw:∀ (tm:Array Value) (g:Gh),EnvR g (restr s.env (looks ops o)) tm→Region.wanted o (yielded ops tm) = (b == want):=by
     intro tm g he
     have hv:=he d _ (zdH hd hb)
     rw [hwd,hy,zfT hv]
     cases b <;> cases want <;> rfl
    cases b <;> cases want <;> simp only [cond_true,cond_false] at h
    ·obtain ⟨v,h1,h2⟩:=run (fun tm g he=>by rw [hw tm g he]; rfl) h
     exact ⟨v,_,h1,rfl,rfl,same hb,h2⟩
    ·exact ⟨_,_,h,rfl,rfl,same hb,skip (fun tm g he=>by rw [hw tm g he]; rfl)⟩
    ·exact ⟨_,_,h,rfl,rfl,same hb,skip (fun tm g he=>by rw [hw tm g he]; rfl)⟩
    ·obtain ⟨v,h1,h2⟩:=run (fun tm g he=>by rw [hw tm g he]; rfl) h
     exact ⟨v,_,h1,rfl,rfl,same hb,h2⟩
   ·rename_i hb
    refine ⟨_,_,h,rfl,rfl,fun _=>rfl,skip (fun tm g he=>?_)⟩
    have hv:=he d _ (zdH hd hb)
    rw [hwd,hy]
    rcases zfU hv with h | h <;> rw [h] <;> cases want <;> rfl
   ·cases h
  ·cases h
theorem StR.bxEq {g:Gh} {env:Env} {stk:List Env} {b b':Bxs} {tm:Array Value} {tms:List (Array Value)} {w:World} (h:StR g ⟨env,stk,b⟩ tm tms w) (e:∀ k,find b' k = find b k):StR g ⟨env,stk,b'⟩ tm tms w :=
 ⟨h.env,h.stk,⟨fun k x hx=>h.bxs.box k x (by rw [← e k]; exact hx),fun k gb hk=>by show (find b' k).isSome = true; rw [e k]; exact h.bxs.dom k gb hk,h.bxs.sep⟩,h.fz⟩
def Eff.ab:Eff→Bxs→Bxs
 | .add k b,l=>(k,b) :: l
 | .upd k b,l=>setB l k b
 | _,l=>l
theorem Eff.apply_light {e:Eff} (h:e.lightB = true) (s:St):e.apply s = ⟨s.env,s.stk,e.ab s.bxs⟩:=by
 cases e <;> first | rfl | cases h
theorem Eff.ab_key {e:Eff} {k:Nat} {b:Box} (h:e.kb = some (k,b)) (l:Bxs):find (e.ab l) k = some b:=by
 cases e with
 | none=>cases h
 | add j c=>cases h; exact zad ..
 | upd j c=>cases h; exact zaF ..
 | app j c=>cases h
theorem Eff.ab_other {e:Eff} {k:Nat} (h:∀ b,e.kb ≠ some (k,b)) (l:Bxs):find (e.ab l) k = find l k:=by
 cases e with
 | none=>rfl
 | add j c=>exact zab _ _ (fun hj=>h c (by rw [hj]; rfl))
 | upd j c=>exact zav _ _ (fun hj=>h c (by rw [hj]; rfl))
 | app j c=>rfl
theorem Eff.ab_eq {e:Eff} {l l':Bxs} (h:∀ k,find l' k = find l k) (k:Nat):find (e.ab l') k = find (e.ab l) k:=by
 by_cases hk:∃ b,e.kb = some (k,b)
 ·obtain ⟨b,hb⟩:=hk
  rw [ab_key hb,ab_key hb]
 ·rw [ab_other (fun b hb=>hk ⟨b,hb⟩),ab_other (fun b hb=>hk ⟨b,hb⟩),h k]
def InRd:Option (List Nat)→Nat→Prop
 | none,_=>True
 | some l,k=>k∈l
def znX (P:Program) (E:Env0) (ops:Array Oper) (o:Oper) (env:Env) (bxs:Bxs) (v:AV) (ef:Eff):Prop :=
 ∀ {F:Fence} {N:Nat},Wide F→∀ {g:Gh} {stk:List Env} {tm:Array Value} {tms:List (Array Value)} {w:World},StR g ⟨env,stk,bxs⟩ tm tms w→zay E.C g.fz→∀ (ds:List Deferred) {i:Nat} (_:ops[i]? = some o) {next:Act→World→Prop} {Q:Exit→Act→World→Prop},
  (∀ g' z w',VR g' v z→StR g' ⟨env,stk,ef.ab bxs⟩ tm tms w'→Tr g w g' w'→next (Act.put ⟨tm,ds⟩ o.dst z) w')→wpOpIn F N P ops Q i next ⟨tm,ds⟩ w
def zkm (P:Program) (E:Env0) (ops:Array Oper) (o:Oper) (env:Env) (b:Bxs) (v:AV) (ef:Eff) (rd:Option (List Nat)):Prop :=
 ∀ b',(∀ k,InRd rd k→find b' k = find b k)→znX P E ops o (restr env (looks ops o)) b' v ef
theorem zjw {C:Cfg} {b b':Bxs} {e:Nat} {y:AV} (h:zjQ y = true):moreV C b' e y = moreV C b e y:=by
 cases y with
 | val T x=>cases T <;> rfl
 | nils=>rfl
 | full T l=>rfl
 | _=>cases h
theorem zhD {C:Cfg} {b b':Bxs} {key t yt:Nat} {x y:AV} (hx:zjR x = true) (hy:zjQ y = true):zcc C b' key t x y yt = zcc C b key t x y yt:=by
 have hm:∀ e,moreV C b' e y = moreV C b e y:=fun e=>zjw hy
 unfold zcc
 cases x with
 | nils=>simp only [hm]
 | full T l=>cases l <;> simp only [hm]
 | _=>cases hx
theorem zjx {C:Cfg} {b:Bxs} {key t yt k:Nat} {x y v:AV} {c:Bool} {bx:Box} (hx:zjR x = true) (he:zcc C b key t x y yt = some (c,v,.add k bx)):k = key:=by
 unfold zcc at he
 split at he
 ·split at he
  ·cases he
  ·split at he
   ·cases x with
    | nils =>
     simp only [sI,sM,Eff.add.injEq] at he
     exact he.2.2.1.symm
    | full T l =>
     cases l with
     | nil =>
      simp only [sI,sM,Eff.add.injEq] at he
      exact he.2.2.1.symm
     | cons a l =>
      simp only at he
      split at he
      ·simp only [sI,sM,Eff.add.injEq] at he
       exact he.2.2.1.symm
      ·cases he
    | _=>cases hx
   ·cases he
 ·cases he
theorem zgN {b b':Bxs} {T:Ty} {v:AV} (h:v.isRow = false):conv b' T v = conv b T v:=by
 cases v <;> first | rfl | (cases h; done)
theorem znr {b b':Bxs}:∀ (T:Ty) (gs:List AV),(gs.all fun g=>!g.isRow) = true→T.rd b' gs = T.rd b gs∧∀ x l,T.rd b gs = some (x,l)→(l.all fun g=>!g.isRow) = true:=by
 have one:∀ (T:Ty),(∀ (bx:Bxs) (gs:List AV),T.rd bx gs = match gs with | v :: l=>(match conv bx T v with | some x=>some (x,l) | none=>none) | []=>none) →
   ∀ (gs:List AV),(gs.all fun g=>!g.isRow) = true→T.rd b' gs = T.rd b gs∧∀ x l,T.rd b gs = some (x,l)→(l.all fun g=>!g.isRow) = true:=by
  intro T hT gs h
  rw [hT b',hT b]
  cases gs with
  | nil=>exact ⟨rfl,fun x l e=>by cases e⟩
  | cons v l =>
   simp only [List.all_cons,sA,Bool.not_eq_true'] at h
   simp only [zgN (b:=b) (b':=b') (T:=T) h.1,true_and]
   intro x l' e
   split at e
   ·cases e
    exact h.2
   ·cases e
 intro T
 induction T with
 | unit=>intro gs h; exact ⟨rfl,fun x l e=>by cases e; exact h⟩
 | pair A B ihA ihB =>
  intro gs h
  obtain ⟨e1,e2⟩:=ihA gs h
  simp only [Ty.rd,e1]
  cases hA:A.rd b gs with
  | none=>exact ⟨rfl,fun x l e=>by cases e⟩
  | some p =>
   obtain ⟨x,l⟩:=p
   obtain ⟨f1,f2⟩:=ihB l (e2 x l hA)
   simp only [f1]
   cases hB:B.rd b l with
   | none=>exact ⟨trivial,fun x l e=>by cases e⟩
   | some p =>
    obtain ⟨y,l2⟩:=p
    refine ⟨trivial,fun x' l' e=>?_⟩
    simp only [sI,sM] at e
    rw [← e.2]
    exact f2 y l2 hB
 | int k=>exact one _ (fun bx gs=>by cases gs <;> rfl)
 | bool=>exact one _ (fun bx gs=>by cases gs <;> rfl)
 | str=>exact one _ (fun bx gs=>by cases gs <;> rfl)
 | sl e _=>exact one _ (fun bx gs=>by cases gs <;> rfl)
 | arr n e ih =>
  intro gs h
  cases gs with
  | nil=>exact ⟨rfl,fun x l e=>by cases e⟩
  | cons v l =>
   have h0:=h
   simp only [List.all_cons,sA,Bool.not_eq_true'] at h
   simp only [Ty.rd,zgN (b:=b) (b':=b') (T:=.arr n e) h.1]
   cases hc:conv b (.arr n e) v with
   | some y =>
    refine ⟨rfl,fun x l' e=>?_⟩
    simp only [sI,sM] at e
    rw [← e.2]
    exact h.2
   | none =>
    have key:∀ (k:Nat) (gs:List AV),(gs.all fun g=>!g.isRow) = true→rdN (e.rd b') k gs = rdN (e.rd b) k gs∧∀ x l,rdN (e.rd b) k gs = some (x,l)→(l.all fun g=>!g.isRow) = true:=by
     intro k
     induction k with
     | zero=>intro gs h; exact ⟨rfl,fun x l e=>by cases e; exact h⟩
     | succ k ihk =>
      intro gs h
      obtain ⟨e1,e2⟩:=ih gs h
      simp only [rdN,e1]
      cases hA:e.rd b gs with
      | none=>exact ⟨rfl,fun x l e=>by cases e⟩
      | some p =>
       obtain ⟨x,l⟩:=p
       obtain ⟨f1,f2⟩:=ihk l (e2 x l hA)
       simp only [f1]
       cases hB:rdN (e.rd b) k l with
       | none=>exact ⟨trivial,fun x l e=>by cases e⟩
       | some p =>
        obtain ⟨y,l2⟩:=p
        refine ⟨trivial,fun x' l' e=>?_⟩
        simp only [sI,sM] at e
        rw [← e.2]
        exact f2 y l2 hB
    exact key n (v :: l) h0
theorem zgO {b b':Bxs} {T:Ty} {v:AV} (h:v.noRow = true):norm b' T v = norm b T v:=by
 unfold norm
 rw [(znr (b:=b) (b':=b') T v.gs h).1]
theorem zfZ {b b':Bxs}:∀ (l:List Ty) (vs:List AV),vs.all AV.noRow = true→argsV b' l vs = argsV b l vs
 | [],[],_=>rfl
 | [],_ :: _,_=>rfl
 | _ :: _,[],_=>rfl
 | T :: l,v :: vs,h=>by
  simp only [List.all_cons,sA] at h
  simp only [argsV]
  rw [zgO (b:=b) h.1,zfZ l vs h.2]
theorem zk0 {base:Nat} {o:Oper} (hc:zfx o = true) {s:St} {K:AV→Option R} {r:R} (h:exec0 E base o s K = some r) {ks:List Nat} (hr:rdOf E.C base o s.env = some ks) :
  ∃ v,K v = some r∧∀ (b':Bxs) (stk':List Env),exec0 E base o ⟨s.env,stk',b'⟩ some = some v:=by
 unfold zfx at hc
 split at hc
 case h_2=>cases hc
 rename_i f args ts hop
 unfold rdOf at hr
 split at hr
 ·cases hr
 ·simp only [hop] at hr
  unfold exec0 at h
  simp only [hop] at h
  split at hr
  ·rename_i vs hvs
   cases hno:vs.all AV.noRow with
   | false=>rw [hno] at hr; cases hr
   | true =>
    split at h
    ·rename_i f' vs' hf hvs'
     rw [hvs] at hvs'
     cases hvs'
     split at h
     ·rename_i p hp
      rw [zer,Option.bind_eq_some_iff] at h
      obtain ⟨x,hx,h⟩:=h
      rw [Option.bind_eq_some_iff] at h
      obtain ⟨y,hy,hK⟩:=h
      refine ⟨_,hK,fun b' stk'=>?_⟩
      unfold exec0
      simp only [hop,hf,hvs,hp]
      rw [zer]
      have e:argsV (bif p.res.all scalar then zhX b' else b') p.args vs = some x:=by
       rw [← hx]
       exact zfZ _ _ hno
      rw [e,Option.bind_some,hy,Option.bind_some]
     ·cases h
    ·cases h
  ·cases hr
theorem zf0 {C:Cfg} {b b':Bxs} {e:Nat} {v:AV} (h:v.isRow = false):viewT C b' e v = viewT C b e v:=by
 cases v with
 | row=>cases h
 | val T x=>cases T <;> rfl
 | _=>rfl
theorem zfe {C:Cfg} {b b':Bxs} {t:Nat} {a iv:AV} (h:∀ k w,a = .row k w→find b' k = find b k):zbE C b' t a iv = zbE C b t a iv:=by
 unfold zbE
 split
 ·rfl
 ·split
  ·rfl
  ·rename_i e hu
   split
   ·rfl
   ·cases a with
    | row k w =>
     have:=h k w rfl
     cases w <;> simp only [this]
    | vsl=>rfl
    | val T x =>
     have:viewT C b' e (.val T x) = viewT C b e (.val T x):=zf0 rfl
     simp only [this]
    | _=>rfl
  ·rfl
theorem ziw {C:Cfg} {b b':Bxs} {t:Nat} {a:AV} {lo hi mx:Option Int} (h:∀ k w,a = .row k w→find b' k = find b k):zeZ C b' t a lo hi mx = zeZ C b t a lo hi mx:=by
 unfold zeZ
 split
 ·rfl
 ·rename_i e hu
  split
  ·rfl
  ·cases a with
   | row k w =>
    have:=h k w rfl
    simp only [this]
   | val T x =>
    have:viewT C b' e (.val T x) = viewT C b e (.val T x):=zf0 rfl
    simp only [this]
   | _=>rfl
 ·rfl
 ·rfl
theorem zdo {b b':Bxs} {T:Ty}:∀ (l:List T.den) (vs:List (Nat × AV)),vs.all (fun x=>x.2.noRow) = true→zdM b' T vs l = zdM b T vs l
 | _,[],_=>rfl
 | l,(i,v) :: vs,h=>by
  simp only [List.all_cons,sA] at h
  simp only [zdM,zgO (b:=b) (b':=b') h.1]
  split
  ·split
   ·exact zdo _ vs h.2
   ·rfl
  ·rfl
theorem zjy {C:Cfg} {base:Nat} {o:Oper} {env:Env} {stk stk':List Env} {b b':Bxs} {ks:List Nat} (h:rdOf C base o env = some ks) (hb:∀ k∈ks,find b' k = find b k):execA C base o ⟨env,stk',b'⟩ = execA C base o ⟨env,stk,b⟩:=by
 unfold rdOf at h
 split at h
 ·cases h
 ·split at h
  ·rename_i x hop; unfold execA; simp only [hop]
  ·rename_i x hop; unfold execA; simp only [hop]
  ·rename_i t x f hop; unfold execA; simp only [hop]
  ·rename_i op t x y yt hop
   unfold execA
   rw [hop]
   cases y with
   | const v=>cases v <;> rfl
   | _=>rfl
  ·rename_i hop; unfold execA; simp only [hop]
  ·rename_i hop; unfold execA; simp only [hop]
  ·rename_i hop; unfold execA; simp only [hop]
  ·rename_i hop; unfold execA; simp only [hop]
  ·rename_i hop; unfold execA; simp only [hop]
  ·rename_i t ps hop
   split at h
   ·rename_i fs hu
    unfold execA
    simp only [hop,zhV,hu]
   ·rename_i n e hu
    split at h
    ·rename_i vs hvs
     cases hall:vs.all (fun x=>x.2.noRow) with
     | false=>rw [hall] at h; cases h
     | true =>
      unfold execA
      simp only [hop,hvs]
      unfold zhV
      simp only [hu]
      split
      ·split
       ·rw [zdo (b:=b) (b':=b') _ vs hall]
       ·rfl
      ·rfl
    ·cases h
   ·cases h
  ·rename_i t n ps hop
   unfold zlk at h
   split at h
   ·rename_i hps
    unfold execA
    simp only [hop,hps,evP,zbq,zdM,List.isEmpty_nil,Bool.not_true,Bool.and_false,cond_false]
   ·rename_i p l hps
    cases ho:C.own.any (Nat.beq t) with
    | true=>rw [ho] at h; cases h
    | false =>
     rw [ho,cond_false] at h
     split at h
     ·rename_i vs hvs
      cases hall:vs.all (fun x=>x.2.noRow) with
      | false=>rw [hall] at h; cases h
      | true =>
       unfold execA
       simp only [hop,hps,hvs,ho,Bool.false_and,cond_false]
       unfold zbq
       split
       ·split
        ·split
         ·rw [zdo (b:=b) (b':=b') _ vs hall]
         ·rfl
        ·rfl
       ·rfl
     ·cases h
  ·rename_i t hop
   cases h
   have:=hb _ (List.mem_singleton.2 rfl)
   unfold execA
   simp only [hop,zcn,this]
  ·rename_i t x i hop
   have e:∀ a iv,ev C env x = some a→zbE C b' t a iv = zbE C b t a iv:=by
    intro a iv ha
    refine zfe fun k w hk=>?_
    rw [ha,hk] at h
    cases h
    exact hb k (List.mem_singleton.2 rfl)
   unfold execA
   simp only [hop]
   cases ha:ev C env x with
   | none=>rfl
   | some a =>
    cases hi:ev C env i with
    | none=>rfl
    | some iv=>exact e a iv ha
  ·rename_i t x lo hi mx hop
   have e:∀ a lo hi mx,ev C env x = some a→zeZ C b' t a lo hi mx = zeZ C b t a lo hi mx:=by
    intro a lo hi mx ha
    refine ziw fun k w hk=>?_
    rw [ha,hk] at h
    cases h
    exact hb k (List.mem_singleton.2 rfl)
   unfold execA
   simp only [hop]
   cases ha:ev C env x with
   | none=>rfl
   | some a =>
    cases h1:idxO C env lo with
    | none=>rfl
    | some lo' =>
     cases h2:idxO C env hi with
     | none=>rfl
     | some hi' =>
      cases h3:idxO C env mx with
      | none=>rfl
      | some mx'=>exact e a lo' hi' mx' ha
  ·rename_i t a hop
   split at h
   ·rename_i c off p ha
    cases h
    have:=hb _ (List.mem_singleton.2 rfl)
    unfold execA
    simp only [hop,ha,loadV,this]
   ·rename_i c i j ha
    cases h
    have:=hb _ (List.mem_singleton.2 rfl)
    unfold execA
    simp only [hop,ha,loadV,this]
   ·rename_i gs ha
    unfold execA
    simp only [hop,ha,loadV]
   ·cases h
  ·rename_i args ts hop
   split at h
   ·rename_i x y hl
    cases hx:zjR x <;> cases hy:zjQ y <;> rw [hx,hy] at h <;> simp at h
    subst h
    have hk:=hb _ (List.mem_singleton.2 rfl)
    cases hts:ts.toList with
    | nil=>unfold execA; simp only [hop,hl,hts]
    | cons t r =>
     cases r with
     | nil=>unfold execA; simp only [hop,hl,hts]
     | cons yt r =>
      cases r with
      | cons u r=>unfold execA; simp only [hop,hl,hts]
      | nil =>
       have e:zcc C b' (base + o.dst.getD 0) t x y yt = zcc C b (base + o.dst.getD 0) t x y yt:=zhD hx hy
       unfold execA
       simp only [hop,hl,hts,e]
       split
       ·rename_i c v k bx he
        rw [zjx hx he]
        unfold zcn
        rw [hk]
       ·rfl
   ·cases h
  ·rename_i f args ts hop
   unfold execA
   simp only [hop]
  ·cases h
theorem zix (hE:EnvOK P E) {base:Nat} {ops:Array Oper} {o:Oper} {env:Env} {stk:List Env} {b:Bxs} {v:AV} {ef:Eff} (hl:ef.lightB = true) (hg:o.guard = none) (h:execA E.C base o ⟨restr env (looks ops o),stk,b⟩ = some (true,v,ef)) :
  zkm P E ops o env b v ef (rdOf E.C base o (restr env (looks ops o))):=by
 have main:∀ {b0:Bxs},execA E.C base o ⟨restr env (looks ops o),stk,b0⟩ = some (true,v,ef)→znX P E ops o (restr env (looks ops o)) b0 v ef:=by
  intro b0 h F N hW g stk' tm tms w hs hG ds i hi next Q hn
  have h':execA E.C base o ⟨restr env (looks ops o),stk',b0⟩ = some (true,v,ef):=h
  obtain ⟨n,w',g',h1,h2,h3,h4⟩:=zbL hE.cfg hs hG h' ds
  rw [Eff.apply_light hl] at h3
  unfold wpOpIn
  rw [hi]
  simp only
  rw [if_pos (by simp [Region.wanted,hg])]
  refine za0 hW (zbb h') ?_
  rw [h1]
  rcases h2 with ⟨z,rfl,h2⟩ | ⟨rfl,h2⟩
  ·rw [Oper.uponIn_value]
   exact hn g' z w' h2 h3 h4
  ·rw [Oper.uponIn_skip]
   exact hn g' undef w' h2 h3 h4
 intro b' hb
 cases hr:rdOf E.C base o (restr env (looks ops o)) with
 | some ks =>
  rw [hr] at hb
  exact main (by rw [zjy (stk:=stk) (b:=b) hr hb]; exact h)
 | none =>
  rw [hr] at hb
  have heq:∀ k,find b' k = find b k:=fun k=>hb k trivial
  intro F N hW g stk' tm tms w hs hG ds i hi next Q hn
  exact main h hW (hs.bxEq (fun k=>(heq k).symm)) hG ds hi (fun g' z w' a c d=>hn g' z w' a (c.bxEq (Eff.ab_eq heq)) d)
theorem zjz {base:Nat} {o:Oper} (hc:zfx o = false) {s:St} {K:AV→Option R} {ks:List Nat} (h:rdOf E.C base o s.env = some ks):exec0 E base o s K = match execA E.C base o s with
  | some (c,v,.none)=>bif c then K v else none
  | _=>none:=by
 unfold rdOf at h
 split at h
 ·cases h
 ·unfold exec0
  split at h <;> first | (cases h; done) | (rename_i hop; unfold zfx at hc; rw [hop] at hc; cases hc; done) | (rename_i hop; simp only [hop]; rfl)
theorem zjA (hE:EnvOK P E) {base:Nat} {ops:Array Oper} {o:Oper} {s:St} {K:AV→St→Option R} {r:R} (h:execG E base ops o s K = some r) :
  ∃ v s1,K v s1 = some r∧s1.stk = s.stk∧s1.bxs = s.bxs∧(∀ t,find s1.env t = find s.env t)∧zkm P E ops o s.env s.bxs v .none (rdOf E.C base o (restr s.env (looks ops o))):=by
 cases hr:rdOf E.C base o (restr s.env (looks ops o)) with
 | none =>
  obtain ⟨v,s1,h1,h2,h3,h4,h5⟩:=znq hE h
  refine ⟨v,s1,h1,h2,h3,h4,fun b' hb=>?_⟩
  have heq:∀ k,find b' k = find s.bxs k:=fun k=>hb k trivial
  intro F N hW g stk' tm tms w hs hG ds i hi next Q hn
  exact h5 hW (hs.bxEq (fun k=>(heq k).symm)) hG ds hi (fun g' z w' a c d=>hn g' z w' a (c.bxEq heq) d)
 | some ks =>
  have hg:o.guard = none:=by
   cases hgd:o.guard with
   | none=>rfl
   | some g=>unfold rdOf at hr; simp only [hgd] at hr; cases hr
  unfold execG at h
  rw [hg] at h
  simp only at h
  cases hcv:zfx o with
  | true =>
   obtain ⟨v,h1,h2⟩:=zk0 hcv h (ks:=ks) (show rdOf E.C base o (restr s.env (looks ops o)) = some ks from hr)
   refine ⟨v,s,h1,rfl,rfl,fun _=>rfl,fun b' _=>?_⟩
   intro F N hW g stk' tm tms w hs hG ds i hi next Q hn
   obtain ⟨v',e1,e2⟩:=zkl (P:=P) hE (s:=⟨restr s.env (looks ops o),stk',b'⟩) (K:=some) (h2 b' stk')
   cases e1
   unfold wpOpIn
   rw [hi]
   simp only
   rw [if_pos (by simp [Region.wanted,hg])]
   exact e2 hW hs hG ds hn
  | false =>
  have hr':rdOf E.C base o (St.mk (restr s.env (looks ops o)) s.stk s.bxs).env = some ks:=hr
  have h:=(zjz (E:=E) hcv (K:=fun v=>K v s) hr').symm.trans h
  split at h
  ·rename_i c v hx
   cases c with
   | false=>simp at h
   | true =>
    simp only [cond_true] at h
    refine ⟨v,s,h,rfl,rfl,fun _=>rfl,?_⟩
    have:=zix (P:=P) hE (stk:=s.stk) (ops:=ops) (env:=s.env) (ef:=.none) rfl hg hx
    rw [hr] at this
    exact this
  ·cases h
def dstAt (ops:Array Oper) (j:Nat):Option Nat:=(ops[j]?).bind (·.dst)
structure EnvAt (ops:Array Oper) (i m:Nat) (vs:Nat→AV) (e0 e1:Env) (T:Nat→Prop):Prop where
 done:∀ j d,i≤j→j < m→T j→dstAt ops j = some d→find e1 d = some (vs j)
 old:∀ t,(∀ j,i≤j→j < m→T j→dstAt ops j ≠ some t)→find e1 t = find e0 t
structure BAt (i m:Nat) (ef:Nat→Eff) (b0 b1:Bxs) (T:Nat→Prop):Prop where
 done:∀ j k b,i≤j→j < m→T j→(ef j).kb = some (k,b)→(∀ j',j < j'→j' < m→T j'→∀ c,(ef j').kb ≠ some (k,c))→find b1 k = some b
 old:∀ k,(∀ j,i≤j→j < m→T j→∀ c,(ef j).kb ≠ some (k,c))→find b1 k = find b0 k
theorem zdp {p:Nat→Prop}:∀ (m:Nat),(∃ n,n < m∧p n)→∃ n,n < m∧p n∧∀ j,n < j→j < m→¬ p j
 | 0,⟨_,h,_⟩=>by omega
 | m + 1,⟨n,hn,hp⟩=>by
  by_cases h:p m
  ·exact ⟨m,by omega,h,fun j h1 h2=>by omega⟩
  ·have hne:n ≠ m:=fun e=>h (e ▸ hp)
   obtain ⟨n',h1,h2,h3⟩:=zdp m ⟨n,by omega,hp⟩
   refine ⟨n',by omega,h2,fun j h4 h5=>?_⟩
   by_cases hj:j = m
   ·subst hj; exact h
   ·exact h3 j h4 (by omega)
theorem BAt.same {i m1 m2 k:Nat} {ef:Nat→Eff} {b0 b1 b2:Bxs} {T1 T2:Nat→Prop} (h1:BAt i m1 ef b0 b1 T1) (h2:BAt i m2 ef b0 b2 T2)
  (he:∀ j c,i≤j→(ef j).kb = some (k,c)→((j < m1∧T1 j) ↔ (j < m2∧T2 j))):find b1 k = find b2 k:=by
 by_cases hx:∃ j,j < m1∧(i≤j∧T1 j∧∃ c,(ef j).kb = some (k,c))
 ·obtain ⟨j,a1,⟨a2,a3,c,a4⟩,a5⟩:=zdp m1 hx
  have hj:=(he j c a2 a4).1 ⟨a1,a3⟩
  rw [h1.done j k c a2 a1 a3 a4 (fun j' q1 q2 q3 c' q4=>a5 j' q1 q2 ⟨by omega,q3,c',q4⟩)]
  rw [h2.done j k c a2 hj.1 hj.2 a4 (fun j' q1 q2 q3 c' q4=>a5 j' q1 ((he j' c' (by omega) q4).2 ⟨q2,q3⟩).1 ⟨by omega,((he j' c' (by omega) q4).2 ⟨q2,q3⟩).2,c',q4⟩)]
 ·rw [h1.old k (fun j q1 q2 q3 c q4=>hx ⟨j,q2,q1,q3,c,q4⟩)]
  rw [h2.old k (fun j q1 q2 q3 c q4=>hx ⟨j,((he j c q1 q4).2 ⟨q2,q3⟩).1,q1,((he j c q1 q4).2 ⟨q2,q3⟩).2,c,q4⟩)]
structure Seg (P:Program) (E:Env0) (ops:Array Oper) (i m:Nat) (s0 s1:St) (vs:Nat→AV) (ef:Nat→Eff) (rd:Nat→Option (List Nat)):Prop where
 le:i≤m
 stk:s1.stk = s0.stk
 bx:BAt i m ef s0.bxs s1.bxs fun _=>True
 env:EnvAt ops i m vs s0.env s1.env fun _=>True
 op:∀ j,i≤j→j < m→∃ o e b,ops[j]? = some o∧zkm P E ops o e b (vs j) (ef j) (rd j)∧EnvAt ops i j vs s0.env e (fun _=>True)∧BAt i j ef s0.bxs b fun _=>True
theorem zf1 {ops:Array Oper} (hD:DrawOK ops) {i j d:Nat} (h:i < j) (h1:dstAt ops i = some d):dstAt ops j ≠ some d:=by
 intro h2
 unfold dstAt at h1 h2
 rw [Option.bind_eq_some_iff] at h1 h2
 obtain ⟨x,hx,hxd⟩:=h1
 obtain ⟨y,hy,hyd⟩:=h2
 have:=hD.pair i x j y hx hy h
 unfold zea at this
 rw [hxd,hyd] at this
 simp only [sA,Nat.beq_refl,Bool.not_true] at this
 exact absurd this.2 (by decide)
abbrev Rest (E:Env0) (inl:Nat→Callee→List AV→St→(AV→St→Option R)→(Pan→St→Option R)→Option R) (base:Nat) (ops:Array Oper) (K:Ex→St→Option R) (r:R) (m:Nat) (s1:St):Prop :=
 ∃ o,ops[m]? = some o∧(opq ops (masks ops.toList []) m o = true∧zbO o = true)∧zbH E inl base ops [o] s1 (fun e s=>match e with | .normal=>zcA E inl base ops (masks ops.toList []) (ops.toList.drop (m + 1)) (m + 1) [] s K | e=>K e s) = some r
theorem zmj (hE : EnvOK P E) {inl : Nat → Callee → List AV → St → (AV → St → Option R) → (Pan → St → Option R) → Option R} {base : Nat} {ops : Array Oper} (hD : DrawOK ops) {K : Ex → St → Option R} {r : R} :
    ∀ (rest : List Oper) (i : Nat), ops.toList.drop i = rest → ∀ {log : List Note} {s : St}, zcA E inl base ops (masks ops.toList []) rest i log s K = some r →
      ∃ m s1 vs ef rd log', Seg P E ops i m s s1 vs ef rd ∧ logOk (masks ops.toList []) log' = true ∧ (∀ n ∈ log, n ∈ log') ∧ (∀ j, i ≤ j → j < m → (⟨j, rd j, (ef j).kb.map (·.1)⟩ : Note) ∈ log') ∧
        ((m = i + rest.length ∧ K .normal s1 = some r) ∨ Rest E inl base ops K r m s1)
  | [], i, hd, log, s, h => by
    simp only [zcA] at h
    cases hl : logOk (masks ops.toList []) log with
    | false => rw [hl] at h; simp at h
    | true =>
      rw [hl, cond_true] at h
      exact ⟨i, s, fun _ => .junk, fun _ => .none, fun _ => none, log, ⟨Nat.le_refl _, rfl, ⟨fun j k b h1 h2 => by omega, fun _ _ => rfl⟩, ⟨fun j d h1 h2 => by omega, fun _ _ => rfl⟩, fun j h1 h2 => by omega⟩, hl, fun _ h => h, fun j h1 h2 => by omega, .inl ⟨by simp, h⟩⟩
  | o :: rest, i, hd, log, s, h => by
    have hok : ops[i]? = some o := by
      have : ops.toList[i]? = some o := by
        have := congrArg (fun l => l[0]?) hd
        simpa using this
      rw [← Array.getElem?_toList]; exact this
    have hd' : ops.toList.drop (i + 1) = rest := by
      rw [← List.drop_drop, hd]; rfl
    simp only [zcA] at h
    cases hq : opq ops (masks ops.toList []) i o with
    | true =>
      rw [hq, cond_true] at h
      cases hl : logOk (masks ops.toList []) log with
      | false => rw [hl] at h; simp at h
      | true =>
       cases hnd : zbO o with
       | false => rw [hnd] at h; simp at h
       | true =>
        rw [hl, hnd, Bool.and_true, cond_true] at h
        refine ⟨i, s, fun _ => .junk, fun _ => .none, fun _ => none, log, ⟨Nat.le_refl _, rfl, ⟨fun j k b h1 h2 => by omega, fun _ _ => rfl⟩, ⟨fun j d h1 h2 => by omega, fun _ _ => rfl⟩, fun j h1 h2 => by omega⟩, hl, fun _ h => h, fun j h1 h2 => by omega, .inr ⟨o, hok, ⟨hq, hnd⟩, ?_⟩⟩
        rw [hd']
        exact h
    | false =>
      rw [hq, cond_false] at h
      have step : ∃ (v : AV) (s1 : St) (e : Eff) (rd0 : Option (List Nat)), zcA E inl base ops (masks ops.toList []) rest (i + 1) (⟨i, rd0, e.kb.map (·.1)⟩ :: log) { s1 with env := putE o.dst v s1.env } K = some r ∧ s1.stk = s.stk ∧ s1.bxs = e.ab s.bxs ∧ (∀ t, find s1.env t = find s.env t) ∧
          zkm P E ops o s.env s.bxs v e rd0 := by
        cases hw : zg5 o with
        | false =>
          rw [hw, cond_false] at h
          obtain ⟨v, s1, h1, h2, h3, h4, h5⟩ := zjA hE h
          exact ⟨v, s1, .none, _, h1, h2, h3, h4, h5⟩
        | true =>
          rw [hw, cond_true] at h
          split at h
          · rename_i c v e hx
            cases hlb : e.lightB with
            | false => rw [hlb] at h; simp at h
            | true =>
              cases c with
              | false => rw [hlb] at h; simp at h
              | true =>
                rw [hlb] at h
                simp only [Bool.and_self, cond_true] at h
                have hg : o.guard = none := by
                  unfold opq at hq
                  rw [hw] at hq
                  cases hlk : zfw o with
                  | false => rw [hlk] at hq; simp at hq
                  | true =>
                    unfold zfw at hlk
                    rw [sA] at hlk
                    cases hgg : o.guard with
                    | none => rfl
                    | some g => rw [hgg] at hlk; cases hlk.1
                refine ⟨v, ⟨s.env, s.stk, e.ab s.bxs⟩, e, _, ?_, rfl, rfl, fun _ => rfl, zix (P := P) hE (stk := s.stk) hlb hg hx⟩
                rw [Eff.apply_light hlb] at h
                exact h
          · cases h
      obtain ⟨v, s1, e, rd0, h1, h2, h3, h4, h5⟩ := step
      obtain ⟨m, s2, vs, ef, rd, log', hseg, hlog, hin, hent, hend⟩ := zmj hE hD rest (i + 1) hd' h1
      have hput : ∀ t, find (putE o.dst v s1.env) t = if o.dst = some t then some v else find s.env t := by
        intro t
        cases ho : o.dst with
        | none => simp [putE, h4]
        | some d =>
          simp only [putE, sI]
          by_cases ht : d = t
          · subst ht; rw [zad, if_pos rfl]
          · rw [zab _ _ ht, if_neg ht, h4]
      have hdi : dstAt ops i = o.dst := by unfold dstAt; rw [hok]; rfl
      have lift : ∀ {m : Nat} {e : Env}, EnvAt ops (i + 1) m vs (putE o.dst v s1.env) e (fun _ => True) → i + 1 ≤ m → EnvAt ops i m (fun j => if j = i then v else vs j) s.env e fun _ => True := by
        intro m e he hm
        refine ⟨fun j d h1 h2 _ hj => ?_, fun t ht => ?_⟩
        · by_cases hji : j = i
          · subst hji
            rw [if_pos rfl, he.old d (fun k hk1 hk2 _ => zf1 hD (by omega) hj), hput, ← hdi, if_pos hj]
          · rw [if_neg hji]
            exact he.done j d (by omega) h2 trivial hj
        · rw [he.old t (fun j h1 h2 _ => ht j (by omega) h2 trivial), hput, if_neg (by rw [← hdi]; exact ht i (Nat.le_refl _) (by omega) trivial)]
      have liftB : ∀ {m : Nat} {b : Bxs}, BAt (i + 1) m ef s1.bxs b (fun _ => True) → i + 1 ≤ m → BAt i m (fun j => if j = i then e else ef j) s.bxs b fun _ => True := by
        intro m b hb hm
        refine ⟨fun j k c q1 q2 _ q3 q4 => ?_, fun k q => ?_⟩
        · by_cases hji : j = i
          · subst hji
            rw [if_pos rfl] at q3
            rw [hb.old k (fun j' a1 a2 _ c' a3 => q4 j' (by omega) a2 trivial c' (by rw [if_neg (by omega)]; exact a3)), h3, Eff.ab_key q3]
          · rw [if_neg hji] at q3
            refine hb.done j k c (by omega) q2 trivial q3 (fun j' a1 a2 _ c' a3 => q4 j' a1 a2 trivial c' ?_)
            rw [if_neg (by omega)]; exact a3
        · rw [hb.old k (fun j' a1 a2 _ c' a3 => q j' (by omega) a2 trivial c' (by rw [if_neg (by omega)]; exact a3)), h3]
          refine Eff.ab_other (fun c hc => q i (Nat.le_refl _) (by omega) trivial c (by rw [if_pos rfl]; exact hc)) _
      refine ⟨m, s2, fun j => if j = i then v else vs j, fun j => if j = i then e else ef j, fun j => if j = i then rd0 else rd j, log', ⟨by have := hseg.le; omega, by rw [hseg.stk]; exact h2, liftB hseg.bx hseg.le, lift hseg.env hseg.le, fun j hj1 hj2 => ?_⟩, hlog, fun n hn => hin n (by simp [hn]), fun j q1 q2 => ?_, ?_⟩
      · by_cases hji : j = i
        · subst hji
          refine ⟨o, s.env, s.bxs, hok, ?_, ⟨fun k d h1 h2 => by omega, fun _ _ => rfl⟩, ⟨fun k d b h1 h2 => by omega, fun _ _ => rfl⟩⟩
          rw [if_pos rfl, if_pos rfl, if_pos rfl]
          exact h5
        · obtain ⟨o', e', b', e1, e2, e3, e4⟩ := hseg.op j (by omega) hj2
          refine ⟨o', e', b', e1, ?_, lift e3 (by omega), liftB e4 (by omega)⟩
          rw [if_neg hji, if_neg hji, if_neg hji]
          exact e2
      · by_cases hji : j = i
        · subst hji
          show (⟨j, (if j = j then rd0 else rd j), (if j = j then e else ef j).kb.map (·.1)⟩ : Note) ∈ log'
          rw [if_pos rfl, if_pos rfl]
          exact hin _ (by simp)
        · show (⟨j, (if j = i then rd0 else rd j), (if j = i then e else ef j).kb.map (·.1)⟩ : Note) ∈ log'
          rw [if_neg hji, if_neg hji]
          exact hent j (by omega) q2
      · rcases hend with ⟨e1, e2⟩ | e
        · exact .inl ⟨by rw [e1, List.length_cons]; omega, e2⟩
        · exact .inr e
def Apart (ops:Array Oper) (i m:Nat) (ef:Nat→Eff) (rd:Nat→Option (List Nat)):Prop :=
 ∀ a b k c,i≤a→a < m→i≤b→b < m→a ≠ b→(ef a).kb = some (k,c)→ahead (masks ops.toList []) a b = true ∨ ahead (masks ops.toList []) b a = true ∨ (¬ InRd (rd b) k∧∀ c',(ef b).kb ≠ some (k,c'))
theorem zkn {ops:Array Oper} {i m:Nat} {ef:Nat→Eff} {rd:Nat→Option (List Nat)} {log:List Note} (hl:logOk (masks ops.toList []) log = true) (he:∀ j,i≤j→j < m→(⟨j,rd j,(ef j).kb.map (·.1)⟩:Note)∈log):Apart ops i m ef rd:=by
 intro a b k c ha1 ha2 hb1 hb2 hab hk
 have h1:=List.all_eq_true.1 hl _ (he a ha1 ha2)
 rw [hk] at h1
 simp only [Option.map_some] at h1
 have h2:=List.all_eq_true.1 h1 _ (he b hb1 hb2)
 unfold apart at h2
 simp only [Bool.or_eq_true,sA] at h2
 rcases h2 with ((h2 | h2) | h2) | ⟨h2,h3⟩
 ·exact absurd (sB h2) hab
 ·exact .inl h2
 ·exact .inr (.inl h2)
 ·refine .inr (.inr ⟨fun hin=>?_,fun c' hc=>?_⟩)
  ·cases hrd:rd b with
   | none=>rw [hrd] at h2; cases h2
   | some ks =>
    rw [hrd] at h2 hin
    simp only [Bool.not_eq_true',List.any_eq_false] at h2
    exact h2 k hin (Nat.beq_refl k)
  ·rw [hc] at h3
   simp at h3
theorem zhE {ops:Array Oper} (hD:DrawOK ops) {i j:Nat} {o:Oper} (ho:ops[j]? = some o) (h:ahead (masks ops.toList []) i j = true):i < j :=
 zdG hD (S:=fun k=>k < j) (fun k o' hk hkj d hd=>by have:=hD.deps k o' hk d hd; omega) j j (Nat.le_refl _) o ho (fun d hd=>hD.deps j o ho d hd) i h
def Done (listed:Array Bool) (j:Nat):Prop:=listed.getD j false = true
theorem zbo {listed:Array Bool} {i j:Nat} (hi:i < listed.size):Done (listed.setIfInBounds i true) j ↔ j = i ∨ Done listed j:=by
 unfold Done
 rw [zkg]
 by_cases h:i = j
 ·subst h
  simp [hi]
 ·simp [h,Ne.symm h]
theorem ziy {listed:Array Bool} {j:Nat} (h:listed.getD j true = false):j < listed.size∧¬ Done listed j:=by
 unfold Done
 simp only [Array.getD_eq_getD_getElem?] at h ⊢
 cases e:listed[j]? with
 | none=>rw [e] at h; simp at h
 | some b =>
  rw [e] at h
  simp only [Option.getD_some] at h
  subst h
  refine ⟨(Array.getElem?_eq_some_iff.1 e).1,by simp⟩
theorem ziz {listed:Array Bool} {j:Nat} (hj:j < listed.size) (h:¬ Done listed j):listed.getD j true = false:=by
 unfold Done at h
 simp only [Array.getD_eq_getD_getElem?,Array.getElem?_eq_getElem hj,Option.getD_some] at h ⊢
 simpa using h
def left (listed:Array Bool):Nat:=listed.toList.countP (fun b=>!b)
theorem zk1 {l:List Bool} {i:Nat} (h:l[i]? = some false):(l.set i true).countP (fun b=>!b) + 1 = l.countP (fun b=>!b):=by
 induction l generalizing i with
 | nil=>simp at h
 | cons b l ih =>
  cases i with
  | zero =>
   simp only [List.getElem?_cons_zero,sI] at h
   subst h
   simp
  | succ i =>
   have:=ih (i:=i) (by simpa using h)
   simp only [List.set_cons_succ,List.countP_cons]
   omega
theorem zdI {listed:Array Bool} {i:Nat} (h:listed.getD i true = false):left (listed.setIfInBounds i true) + 1 = left listed:=by
 unfold left
 rw [Array.toList_setIfInBounds]
 refine zk1 ?_
 obtain ⟨h1,h2⟩:=ziy h
 rw [Array.getElem?_toList]
 simp only [Array.getD_eq_getD_getElem?,Array.getElem?_eq_getElem h1,Option.getD_some] at h
 rw [Array.getElem?_eq_getElem h1,h]
theorem ziA {listed:Array Bool} (h:left listed = 0) (j:Nat):listed.getD j true = true:=by
 cases hb:listed.getD j true with
 | true=>rfl
 | false=>have:=zdI hb; omega
structure Mid (P:Program) (E:Env0) (inl:Nat→Callee→List AV→St→(AV→St→Option R)→(Pan→St→Option R)→Option R) (base:Nat) (ops:Array Oper) (K:Ex→St→Option R) (r:R) (tms:List (Array Value)) (listed:Array Bool) (g:Gh) (tm:Array Value) (w:World):Prop where
 st:∃ i s0 m s1 vs ef rd es bS,Seg P E ops i m s0 s1 vs ef rd∧Apart ops i m ef rd∧m≤ops.size∧((m = ops.size∧K .normal s1 = some r) ∨ Rest E inl base ops K r m s1) ∧
  (∀ j,j < i→Done listed j)∧(∀ j,Done listed j→j < m)∧EnvAt ops i m vs s0.env es (Done listed)∧BAt i m ef s0.bxs bS (Done listed)∧StR g ⟨es,s0.stk,bS⟩ tm tms w
theorem znY (hE : EnvOK P E) {F : Fence} (hW : Wide F) {N : Nat} {inl : Nat → Callee → List AV → St → (AV → St → Option R) → (Pan → St → Option R) → Option R} (hI : InlOK P E inl) {base : Nat} {ops : Array Oper} {o : Oper} {j : Nat} (hoj : ops[j]? = some o) {ds : List Deferred} {n : Nat} (hall : dstOk n o = true) (hnd : zbO o = true) {T tms : List (Array Value)} (hT : T = dfs ds ++ tms)
    {K : Ex → St → Option R} {r : R} {g : Gh} {s : St} {tm : Array Value} {w : World} (h : zbH E inl base ops [o] s K = some r) (hs : StR g s tm T w) (hG : zay E.C g.fz) (hn : tm.size = n) {next : Act → World → Prop} {Q : Exit → Act → World → Prop}
    (hQ : ∀ s' tm' g' w', K .normal s' = some r → StR g' s' tm' T w' → Tr g w g' w' → tm'.size = n → (∃ z, tm' = (Act.put ⟨tm, ds⟩ o.dst z).tmps) → next ⟨tm', ds⟩ w')
    (hP : ∀ p s' tm' g' w', K (.pan p) s' = some r → StR g' s' tm' T w' → Tr g w g' w' → tm'.size = n → Q (.panic [Pan.entry p]) ⟨tm', ds⟩ w') : wpOpIn F N P ops Q j next ⟨tm, ds⟩ w := by
  subst hT
  have hlt := zcj hall
  have run : ∀ {s1 : St}, StR g s1 tm (dfs ds ++ tms) w → exec1 E inl base o s1 (fun v s => zbH E inl base ops [] { s with env := putE o.dst v s.env } K) (fun p s => K (.pan p) s) = some r → o.wpIn F N P ⟨tm, ds⟩ w next Q := by
    intro s1 hs1 h1
    refine zkk hE hW hI hs1 hG h1 (.inr hnd) (fun v s' g' z w' ds' a b c d e => ?_) (fun p s' g' w' a b c => hP p s' tm g' w' a b c hn)
    have := c.same hnd
    subst this
    rw [put_defers]
    exact hQ _ _ g' w' a (d.put (fun d hd => by rw [hn]; exact hlt d hd) b ds') e (by rw [zbM]; exact hn) ⟨z, rfl⟩
  have skip : ∀ {s1 : St}, StR g s1 tm (dfs ds ++ tms) w → zbH E inl base ops [] { s1 with env := putE o.dst (.tup []) s1.env } K = some r → next (Act.put ⟨tm, ds⟩ o.dst undef) w := by
    intro s1 hs1 h1
    rw [put_defers]
    exact hQ _ _ g w h1 (hs1.put (fun d hd => by rw [hn]; exact hlt d hd) (skipR g) ds) (Tr.refl _ _) (by rw [zbM]; exact hn) ⟨undef, rfl⟩
  unfold wpOpIn
  rw [hoj]
  simp only
  rw [zbH] at h
  split at h
  · rename_i hg
    have hw : Region.wanted o (yielded ops tm) = true := by simp [Region.wanted, hg]
    rw [if_pos hw]
    exact run hs h
  · rename_i k want hg
    split at h
    · rename_i d hk
      have hw : Region.wanted o (yielded ops tm) = (yielded ops tm k == some want) := by simp [Region.wanted, hg]
      have hy : yielded ops tm k = match tm[d]? with | some (.bool b) => some b | _ => none := by unfold yielded; rw [hk]; rfl
      split at h
      · rename_i b hb
        have hv := hs.env d _ hb
        have hy' : yielded ops tm k = some b := by rw [hy, zfT hv]
        rw [hw, hy']
        cases b <;> cases want <;> simp only [cond_true, cond_false] at h
        · rw [if_pos (by decide)]; exact run (hs.again hv) h
        · rw [if_neg (by decide)]; exact ⟨fun f _ => hW.fn f, skip (hs.again hv) h⟩
        · rw [if_neg (by decide)]; exact ⟨fun f _ => hW.fn f, skip (hs.again hv) h⟩
        · rw [if_pos (by decide)]; exact run (hs.again hv) h
      · rename_i hb
        have hv := hs.env d _ hb
        have hy' : yielded ops tm k = none := by
          rw [hy]
          rcases zfU hv with h | h <;> rw [h]
        rw [hw, hy', if_neg (by cases want <;> decide)]
        exact ⟨fun f _ => hW.fn f, skip hs h⟩
      · cases h
    · cases h
theorem zoE (hE:EnvOK P E) {F:Fence} (hW:Wide F) {N:Nat} {inl:Nat→Callee→List AV→St→(AV→St→Option R)→(Pan→St→Option R)→Option R} (hI:InlOK P E inl) {base:Nat} {ops:Array Oper} (hD:DrawOK ops) {ds:List Deferred} {n:Nat} (hall:ops.toList.all (dstOk n) = true) {tms T':List (Array Value)} (hT:tms = dfs ds++T') {Q:Exit→Act→World→Prop} {K:Ex→St→Option R} {r:R} :
  ∀ (fuel:Nat) (listed:Array Bool),left listed = fuel→listed.size = ops.size→(∀ k o,ops[k]? = some o→Done listed k→∀ j∈deps o,Done listed j) →
   ∀ {g:Gh} {tm:Array Value} {w:World},Mid P E inl base ops K r tms listed g tm w→zay E.C g.fz→tm.size = n →
   (∀ s' tm' g' w',K .normal s' = some r→StR g' s' tm' tms w'→Tr g w g' w'→tm'.size = n→Q .normal ⟨tm',ds⟩ w')→(∀ p s' tm' g' w',K (.pan p) s' = some r→StR g' s' tm' tms w'→Tr g w g' w'→tm'.size = n→Q (.panic [Pan.entry p]) ⟨tm',ds⟩ w')→wpAnyIn F N P .any ops Q fuel listed ⟨tm,ds⟩ w:=by
 intro fuel
 induction fuel with
 | zero =>
  intro listed hl hsz hcl g tm w hM hG hn hQ hP
  have hdone:∀ j,j < ops.size→Done listed j:=by
   intro j hj
   have:=ziA hl j
   unfold Done
   simp only [Array.getD_eq_getD_getElem?,Array.getElem?_eq_getElem (show j < listed.size by omega),Option.getD_some] at this ⊢
   exact this
  refine ⟨?_,?_⟩
  ·cases hr:Region.ready .any ops listed with
   | nil=>rfl
   | cons j l =>
    have:j∈Region.ready .any ops listed:=by rw [hr]; simp
    have:=(mem_ready.1 this).1
    rw [ziA hl j] at this
    cases this
  ·obtain ⟨i,s0,m,s1,vs,ef,rd,es,bS,hseg,hap,hm,hend,hlo,hhi,henv,hbS,hs⟩:=hM.st
   rcases hend with ⟨rfl,hK⟩ | ⟨o,ho,_,_⟩
   ·have hbq:∀ k,find s1.bxs k = find bS k:=fun k=>hseg.bx.same hbS (fun j c _ _=>⟨fun ⟨q1,_⟩=>⟨q1,hdone j q1⟩,fun ⟨q1,_⟩=>⟨q1,trivial⟩⟩)
    have hs2:=hs.bxEq hbq
    refine hQ s1 tm g w hK ⟨?_,by rw [hseg.stk]; exact hs.stk,hs2.bxs,hs.fz⟩ (Tr.refl _ _) hn
    intro t v ht
    refine hs.env t v ?_
    by_cases hx:∃ j,i≤j∧j < ops.size∧dstAt ops j = some t
    ·obtain ⟨j,h1,h2,h3⟩:=hx
     rw [henv.done j t h1 h2 (hdone j h2) h3,← hseg.env.done j t h1 h2 trivial h3,ht]
    ·rw [henv.old t (fun j h1 h2 _ h3=>hx ⟨j,h1,h2,h3⟩),← hseg.env.old t (fun j h1 h2 _ h3=>hx ⟨j,h1,h2,h3⟩),ht]
   ·have hlt:m < ops.size:=(Array.getElem?_eq_some_iff.1 ho).1
    exact absurd (hhi m (hdone m hlt)) (Nat.lt_irrefl _)
 | succ fuel ih =>
  intro listed hl hsz hcl g tm w hM hG hn hQ hP
  refine ⟨fun hr=>?_,fun j hj=>?_⟩
  ·-- nothing is ready,though something is to come
   exfalso
   have hex:∃ j,listed.getD j true = false:=by
    refine Classical.byContradiction fun hno=>?_
    have hall':∀ b∈listed.toList,b = true:=by
     intro b hb
     obtain ⟨j,hj,e⟩:=List.mem_iff_getElem.1 hb
     cases b with
     | true=>rfl
     | false =>
      refine absurd ⟨j,?_⟩ hno
      have hj':j < listed.size:=by simpa using hj
      simp only [Array.getD_eq_getD_getElem?,Array.getElem?_eq_getElem hj',Option.getD_some]
      simpa using e
    have:left listed = 0:=by
     unfold left
     rw [List.countP_eq_zero]
     intro b hb
     rw [hall' b hb]
     simp
    omega
   obtain ⟨j,hj,hmin⟩:=zhC hex
   obtain ⟨h1,h2⟩:=ziy hj
   have hoj:ops[j]? = some ops[j]:=Array.getElem?_eq_getElem (by omega)
   have:j∈Region.ready .any ops listed:=mem_ready.2 ⟨hj,_,hoj,fun e he hb=>by
    have hlt:=hD.deps j _ hoj e.on (List.mem_map.2 ⟨e,List.mem_filter.2 ⟨by simpa using he,hb⟩,rfl⟩)
    refine Classical.byContradiction fun hno=>?_
    have:=hmin e.on (ziz (by omega) hno)
    omega⟩
   rw [hr] at this
   cases this
  ·obtain ⟨hj0,o,hoj,hdep⟩:=mem_ready.1 hj
   obtain ⟨hjs,hnd⟩:=ziy hj0
   have hdeps:∀ d∈deps o,Done listed d:=by
    intro d hd
    obtain ⟨e,he,rfl⟩:=List.mem_map.1 hd
    obtain ⟨he1,he2⟩:=List.mem_filter.1 he
    exact hdep e (by simpa using he1) he2
   have hah:∀ k,ahead (masks ops.toList []) k j = true→Done listed k:=zdG hD (S:=Done listed) hcl j j (Nat.le_refl _) o hoj hdeps
   obtain ⟨i,s0,m,s1,vs,ef,rd,es,bS,hseg,hap,hm,hend,hlo,hhi,henv,hbS,hs⟩:=hM.st
   have hij:i≤j:=by
    refine Classical.byContradiction fun h=>hnd (hlo j (by omega))
   have hl':left (listed.setIfInBounds j true) = fuel:=by have:=zdI hj0; omega
   have hcl':∀ k o',ops[k]? = some o'→Done (listed.setIfInBounds j true) k→∀ d∈deps o',Done (listed.setIfInBounds j true) d:=by
    intro k o' hk hd d hdd
    rw [zbo hjs] at hd ⊢
    rcases hd with rfl | hd
    ·rw [hoj] at hk
     cases hk
     exact .inr (hdeps d hdd)
    ·exact .inr (hcl k o' hk hd d hdd)
   rcases Nat.lt_trichotomy j m with hjm | hjm | hjm
   ·-- of the stretch
    obtain ⟨o',e,b,e1,e3,e4,e5⟩:=hseg.op j hij hjm
    rw [hoj] at e1
    cases e1
    have notAfter:∀ k,i≤k→k < m→Done listed k→ahead (masks ops.toList []) j k ≠ true:=by
     intro k h1 h2 hdk ha
     have hk:ops[k]? = some ops[k]:=Array.getElem?_eq_getElem (by omega)
     exact hnd (zdG hD (S:=Done listed) hcl k k (Nat.le_refl _) _ hk (hcl k _ hk hdk) j ha)
    have hagree:∀ k,InRd (rd j) k→find bS k = find b k:=by
     intro k hk
     refine hbS.same e5 (fun x c hx hxc=>⟨fun ⟨q1,q2⟩=>⟨?_,trivial⟩,fun ⟨q1,_⟩=>⟨by omega,?_⟩⟩)
     ·have hne:x ≠ j:=fun h=>hnd (h ▸ q2)
      rcases hap x j k c hx q1 hij hjm hne hxc with h | h | h
      ·exact zhE hD hoj h
      ·exact absurd h (notAfter x hx q1 q2)
      ·exact absurd hk h.1
     ·rcases hap x j k c hx (by omega) hij hjm (by omega) hxc with h | h | h
      ·exact hah x h
      ·have hk':ops[x]? = some ops[x]:=Array.getElem?_eq_getElem (by omega)
       have:=zhE hD hk' h
       omega
      ·exact absurd hk h.1
    have hR:EnvR g (restr e (looks ops o)) tm:=by
     intro t v ht
     obtain ⟨ht1,ht2⟩:=zeU ht
     refine hs.env t v ?_
     by_cases hx:∃ k,i≤k∧k < j∧dstAt ops k = some t
     ·obtain ⟨k,h1,h2,h3⟩:=hx
      have hk:∃ x,ops[k]? = some x∧x.dst = some t:=by
       unfold dstAt at h3
       exact Option.bind_eq_some_iff.1 h3
      obtain ⟨x,hxk,hxt⟩:=hk
      have hp:=hD.pair k x j o hxk hoj h2
      unfold zea at hp
      rw [hxt] at hp
      simp only [sA,Bool.or_eq_true,Bool.not_eq_true'] at hp
      have hdk:Done listed k:=by
       rcases hp.1 with h | h
       ·exact hah k h
       ·have:=h.1.2
        rw [List.contains_iff_mem.2 ht1] at this
        cases this
      rw [henv.done k t h1 (by omega) hdk h3,← e4.done k t h1 h2 trivial h3,ht2]
     ·rw [e4.old t (fun k h1 h2 _ h3=>hx ⟨k,h1,h2,h3⟩)] at ht2
      rw [henv.old t (fun k h1 h2 hdk h3=>?_),ht2]
      have hk:∃ x,ops[k]? = some x∧x.dst = some t:=by
       unfold dstAt at h3
       exact Option.bind_eq_some_iff.1 h3
      obtain ⟨x,hxk,hxt⟩:=hk
      rcases Nat.lt_trichotomy k j with hkj | hkj | hkj
      ·exact hx ⟨k,h1,hkj,h3⟩
      ·subst hkj; exact hnd hdk
      ·have hp:=hD.pair j o k x hoj hxk hkj
       unfold zea at hp
       rw [hxt] at hp
       simp only [sA,Bool.or_eq_true,Bool.not_eq_true'] at hp
       rcases hp.1 with h | h
       ·exact hnd (zdG hD (S:=Done listed) hcl k k (Nat.le_refl _) x hxk (hcl k x hxk hdk) j h)
       ·have:=h.2
        rw [List.contains_iff_mem.2 ht1] at this
        cases this
    have hs2:StR g ⟨restr e (looks ops o),es :: s0.stk,bS⟩ tm (tm :: tms) w:=⟨hR,⟨hs.env,hs.stk⟩,hs.bxs,hs.fz⟩
    refine e3 bS hagree hW hs2 hG ds hoj (fun g' z w' hv hs3 ht=>?_)
    rw [put_defers]
    refine ih (listed.setIfInBounds j true) hl' (by simp [hsz]) hcl' ⟨⟨i,s0,m,s1,vs,ef,rd,putE o.dst (vs j) es,(ef j).ab bS,hseg,hap,hm,hend,fun k hk=>(zbo hjs).2 (.inr (hlo k hk)),fun k hk=>?_,⟨fun k d h1 h2 hk hd=>?_,fun t ht'=>?_⟩,⟨fun x k c q1 q2 q3 q4 q5=>?_,fun k q=>?_⟩,?_⟩⟩ (hG.mono ht.fz) (by rw [zbM]; exact hn) (fun s' tm' g2 w2 a b c d=>hQ s' tm' g2 w2 a b (ht.trans c) d) (fun p s' tm' g2 w2 a b c d=>hP p s' tm' g2 w2 a b (ht.trans c) d)
    ·rcases (zbo hjs).1 hk with rfl | hk
     ·exact hjm
     ·exact hhi k hk
    ·have hdj:dstAt ops j = o.dst:=by unfold dstAt; rw [hoj]; rfl
     rcases (zbo hjs).1 hk with rfl | hk2
     ·rw [hdj] at hd
      rw [hd]
      simp only [putE,zad]
     ·have hne:o.dst ≠ some d:=by
       intro hod
       rw [← hdj] at hod
       rcases Nat.lt_trichotomy k j with hkj | hkj | hkj
       ·exact zf1 hD hkj hd hod
       ·subst hkj; exact hnd hk2
       ·exact zf1 hD hkj hod hd
      have:find (putE o.dst (vs j) es) d = find es d:=by
       cases hod:o.dst with
       | none=>rfl
       | some u=>simp only [putE]; rw [zab _ _ (fun e=>hne (by rw [hod,e]))]
      rw [this]
      exact henv.done k d h1 h2 hk2 hd
    ·have hdj:dstAt ops j = o.dst:=by unfold dstAt; rw [hoj]; rfl
     have hne:o.dst ≠ some t:=by
      rw [← hdj]
      exact ht' j hij hjm ((zbo hjs).2 (.inl rfl))
     have:find (putE o.dst (vs j) es) t = find es t:=by
      cases hod:o.dst with
      | none=>rfl
      | some u=>simp only [putE]; rw [zab _ _ (fun e=>hne (by rw [hod,e]))]
     rw [this]
     exact henv.old t (fun k h1 h2 hk=>ht' k h1 h2 ((zbo hjs).2 (.inr hk)))
    ·-- the boxes of what is done
     by_cases hxj:x = j
     ·subst hxj
      exact Eff.ab_key q4 _
     ·have hdx:Done listed x:=((zbo hjs).1 q3).resolve_left hxj
      have hjk:∀ c',(ef j).kb ≠ some (k,c'):=by
       intro c' hc'
       by_cases hlt:x < j
       ·exact q5 j hlt hjm ((zbo hjs).2 (.inl rfl)) c' hc'
       ·rcases hap x j k c q1 q2 hij hjm hxj q4 with h | h | h
        ·exact hlt (zhE hD hoj h)
        ·exact notAfter x q1 q2 hdx h
        ·exact h.2 c' hc'
      rw [Eff.ab_other hjk]
      exact hbS.done x k c q1 q2 hdx q4 (fun y a1 a2 a3 c' a4=>q5 y a1 a2 ((zbo hjs).2 (.inr a3)) c' a4)
    ·rw [Eff.ab_other (fun c' hc'=>q j hij hjm ((zbo hjs).2 (.inl rfl)) c' hc')]
     exact hbS.old k (fun y a1 a2 a3 c' a4=>q y a1 a2 ((zbo hjs).2 (.inr a3)) c' a4)
    ·have hs4:StR g' ⟨es,s0.stk,(ef j).ab bS⟩ tm tms w':=⟨hs3.stk.1,hs3.stk.2,hs3.bxs,hs3.fz⟩
     exact hs4.put (fun d hd=>by rw [hn]; exact zcj (List.all_eq_true.1 hall o (by simpa using Array.mem_of_getElem? hoj)) d hd) hv ds
   ·-- the operation that ends the stretch
    subst hjm
    rcases hend with ⟨he,_⟩ | ⟨o',ho',hwr,hrun⟩
    ·exact absurd (Array.getElem?_eq_some_iff.1 hoj).1 (by omega)
    ·rw [hoj] at ho'
     cases ho'
     have hbefore:∀ k,k < j→Done listed k:=by
      intro k hk
      have hok:ops[k]? = some ops[k]:=Array.getElem?_eq_getElem (by omega)
      have hp:=hD.pair k _ j o hok hoj hk
      unfold zea at hp
      rw [hwr.1] at hp
      simp only [sA,Bool.or_eq_true,Bool.not_true,sF,and_false,false_and,or_false] at hp
      exact hah k hp.1
     have hbq:∀ k,find s1.bxs k = find bS k:=fun k=>hseg.bx.same hbS (fun x c _ _=>⟨fun ⟨q1,_⟩=>⟨q1,hbefore x q1⟩,fun ⟨q1,_⟩=>⟨q1,trivial⟩⟩)
     have hs1:StR g s1 tm tms w:=by
      refine ⟨?_,by rw [hseg.stk]; exact hs.stk,(hs.bxEq hbq).bxs,hs.fz⟩
      intro t v ht
      refine hs.env t v ?_
      by_cases hx:∃ k,i≤k∧k < j∧dstAt ops k = some t
      ·obtain ⟨k,h1,h2,h3⟩:=hx
       rw [henv.done k t h1 h2 (hbefore k h2) h3,← hseg.env.done k t h1 h2 trivial h3,ht]
      ·rw [henv.old t (fun k h1 h2 _ h3=>hx ⟨k,h1,h2,h3⟩),← hseg.env.old t (fun k h1 h2 _ h3=>hx ⟨k,h1,h2,h3⟩),ht]
     refine znY hE hW hI hoj (List.all_eq_true.1 hall o (by simpa using Array.mem_of_getElem? hoj)) hwr.2 hT hrun hs1 hG hn (fun s' tm' g' w' hk hs' ht hn' _=>?_) (fun p s' tm' g' w' a b c d=>hP p s' tm' g' w' a b c d)
     obtain ⟨m',s2,vs',ef',rd',log',hseg',hlog',_,hent',hend'⟩:=zmj hE hD (ops.toList.drop (j + 1)) (j + 1) rfl hk
     have hm':m'≤ops.size:=by
      rcases hend' with ⟨e,_⟩ | ⟨x,hx,_⟩
      ·rw [e,List.length_drop,Array.length_toList]; have:=(Array.getElem?_eq_some_iff.1 hoj).1; omega
      ·exact Nat.le_of_lt (Array.getElem?_eq_some_iff.1 hx).1
     have hlo':∀ k,k < j + 1→Done (listed.setIfInBounds j true) k:=fun k hk=>(zbo hjs).2 (by
      by_cases hkj:k = j
      ·exact .inl hkj
      ·exact .inr (hbefore k (by omega)))
     have hhi':∀ k,Done (listed.setIfInBounds j true) k→k < j + 1:=fun k hk=>by
      rcases (zbo hjs).1 hk with rfl | hk
      ·omega
      ·have:=hhi k hk; omega
     refine ih (listed.setIfInBounds j true) hl' (by simp [hsz]) hcl' ⟨⟨j + 1,s',m',s2,vs',ef',rd',s'.env,s'.bxs,hseg',zkn hlog' hent',hm',?_,hlo',fun k hk=>Nat.lt_of_lt_of_le (hhi' k hk) hseg'.le,⟨fun k d h1 _ hk _=>?_,fun _ _=>rfl⟩,⟨fun k d b h1 _ hk _=>?_,fun _ _=>rfl⟩,hs'⟩⟩ (hG.mono ht.fz) hn' (fun s' tm' g2 w2 a b c d=>hQ s' tm' g2 w2 a b (ht.trans c) d) (fun p s' tm' g2 w2 a b c d=>hP p s' tm' g2 w2 a b (ht.trans c) d)
     ·rcases hend' with ⟨e1,e2⟩ | e
      ·refine .inl ⟨?_,e2⟩
       rw [e1,List.length_drop,Array.length_toList]
       have:=(Array.getElem?_eq_some_iff.1 hoj).1
       omega
      ·exact .inr e
     ·have:=hhi' k hk
      omega
     ·have:=hhi' k hk
      omega
   ·-- behind the stretch
    exfalso
    rcases hend with ⟨he,_⟩ | ⟨o',ho',hwr,_⟩
    ·exact absurd (Array.getElem?_eq_some_iff.1 hoj).1 (by omega)
    ·have hp:=hD.pair m o' j o ho' hoj hjm
     unfold zea at hp
     rw [hwr.1] at hp
     simp only [sA,Bool.or_eq_true,Bool.not_true,sF,false_and,or_false] at hp
     exact absurd (hhi m (hah m hp.1)) (Nat.lt_irrefl _)
theorem zmk (hE : EnvOK P E) {F : Fence} (hW : Wide F) {N : Nat} {inl : Nat → Callee → List AV → St → (AV → St → Option R) → (Pan → St → Option R) → Option R} (hI : InlOK P E inl) (hm : P.follows .mixedOrders = true) {base id : Nat} {ops : Array Oper} (hD : zlj ops = true) {ds : List Deferred} {n : Nat} (hall : ops.toList.all (dstOk n) = true) {tms T' : List (Array Value)} (hT : tms = dfs ds ++ T') {Q : Exit → Act → World → Prop}
    {K : Ex → St → Option R} {r : R} {g : Gh} {s : St} {tm : Array Value} {w : World} (h : zcA E inl base ops (masks ops.toList []) ops.toList 0 [] s K = some r) (hs : StR g s tm tms w) (hG : zay E.C g.fz) (hn : tm.size = n)
    (hQ : ∀ s' tm' g' w', K .normal s' = some r → StR g' s' tm' tms w' → Tr g w g' w' → tm'.size = n → Q .normal ⟨tm', ds⟩ w')
    (hP : ∀ p s' tm' g' w', K (.pan p) s' = some r → StR g' s' tm' tms w' → Tr g w g' w' → tm'.size = n → Q (.panic [Pan.entry p]) ⟨tm', ds⟩ w') : (Code.region id ops true).wpIn F N P Q ⟨tm, ds⟩ w := by
  refine wpIn_region_any hm ?_
  have hD' := zmh hD
  have hw : w.grownBy w.drew none := ⟨rfl, rfl, rfl, Nat.le_refl _, fun _ _ _ => rfl⟩
  have hs' : StR g s tm tms w.drew := hs.grow (fun _ _ => rfl)
  have ht : Tr g w g w.drew := Tr.grow hw
  have hno : ∀ j, ¬ Done (Array.replicate ops.size false) j := by
    intro j h
    unfold Done at h
    simp only [Array.getD_eq_getD_getElem?, Array.getElem?_replicate] at h
    split at h <;> simp at h
  obtain ⟨m, s1, vs, ef, rd, log', hseg, hlog, _, hent, hend⟩ := zmj hE hD' ops.toList 0 rfl h
  refine zoE hE hW hI (base := base) hD' hall hT ops.size _ (by simp [left, List.countP_replicate]) (by simp) (fun k _ _ hk => absurd hk (hno k)) (g := g) (w := w.drew) ⟨⟨0, s, m, s1, vs, ef, rd, s.env, s.bxs, hseg, zkn hlog hent, ?_, ?_, fun j hj => by omega, fun j hj => absurd hj (hno j), ⟨fun j _ _ _ hj => absurd hj (hno j), fun _ _ => rfl⟩, ⟨fun j _ _ _ _ hj => absurd hj (hno j), fun _ _ => rfl⟩, hs'⟩⟩ hG hn (fun s' tm' g' w' a b c d => hQ s' tm' g' w' a b (ht.trans c) d) (fun p s' tm' g' w' a b c d => hP p s' tm' g' w' a b (ht.trans c) d)
  · rcases hend with ⟨e, _⟩ | ⟨x, hx, _⟩
    · rw [e]; simp
    · exact Nat.le_of_lt (Array.getElem?_eq_some_iff.1 hx).1
  · rcases hend with ⟨e1, e2⟩ | e
    · exact .inl ⟨by rw [e1]; simp, e2⟩
    · exact .inr e
theorem zdJ {D:List Nat}:∀ {env:Env} {n:Nat} {v:AV},find (dropE D env) n = some v→n ∉ D∧∃ u,find env n = some u
 | [],_,_,h=>nomatch h
 | (m,u) :: l,n,v,h=>by
  simp only [dropE] at h
  cases hc:D.contains m with
  | true =>
   rw [hc,cond_true] at h
   obtain ⟨h1,u',h2⟩:=zdJ h
   refine ⟨h1,?_⟩
   by_cases hm:m = n
   ·subst hm; exact absurd (List.contains_iff_mem.1 hc) h1
   ·exact ⟨u',by rw [zab _ _ hm]; exact h2⟩
  | false =>
   rw [hc,cond_false] at h
   by_cases hm:m = n
   ·subst hm
    exact ⟨fun hd=>(by rw [List.contains_iff_mem.2 hd] at hc; cases hc),u,zad _ _ _⟩
   ·rw [zab _ _ hm] at h
    obtain ⟨h1,u',h2⟩:=zdJ h
    exact ⟨h1,u',by rw [zab _ _ hm]; exact h2⟩
theorem zc7 {D:List Nat}:∀ {env:Env} {n:Nat} {v:AV},find (dropE D env) n = some v→find env n = some v
 | [],_,_,h=>nomatch h
 | (m,u) :: l,n,v,h=>by
  have hn:=(zdJ h).1
  simp only [dropE] at h
  cases hc:D.contains m with
  | true =>
   rw [hc,cond_true] at h
   by_cases hm:m = n
   ·subst hm; exact absurd (List.contains_iff_mem.1 hc) hn
   ·rw [zab _ _ hm]; exact zc7 h
  | false =>
   rw [hc,cond_false] at h
   by_cases hm:m = n
   ·subst hm; rw [zad] at h ⊢; exact h
   ·rw [zab _ _ hm] at h ⊢; exact zc7 h
theorem zk2 {o:Oper} (h:inert o = true) (w:World) (ρ:Operand→Value):o.about P w ρ = none:=by
 unfold inert at h
 simp only [sA] at h
 have h2:=h.2
 unfold Oper.about
 split at h2 <;> first | (cases h2; done) | (rename_i hop; rw [hop])
theorem zgP {o:Oper} (h:isLoad o = true) (w:World) (ρ:Operand→Value):o.about P w ρ = none:=by
 unfold isLoad at h
 simp only [sA] at h
 have h2:=h.2
 unfold Oper.about
 split at h2 <;> first | (cases h2; done) | (rename_i hop; rw [hop])
theorem zgQ {o:Oper} (h:isLoad o = true):o.guard = none:=by
 unfold isLoad at h
 simp only [sA,Option.isNone_iff_eq_none] at h
 exact h.1
theorem zns (hC:CfgOK E.C P) {g:Gh} {s:St} {tm:Array Value} {T:List (Array Value)} {w:World} (hs:StR g s tm T w) (hG:zay E.C g.fz) {base:Nat} {o:Oper} (hin:inert o = true) {v:AV} (h:execA E.C base o s = some (true,v,.none)) (d:List Deferred) :
  ∃ z,(∀ w1,(execOp (Act.eval ⟨tm,d⟩) o).run P w1 = .ok (.value z) w1)∧VR g v z:=by
 unfold inert at hin
 simp only [sA] at hin
 have h2:=hin.2
 unfold execA at h
 split at h2
 ·rename_i x hop
  simp only [hop] at h
  split at h
  ·rename_i v' hv
   simp only [ok,sI,sM,true_and,and_true] at h
   subst h
   exact ⟨_,fun w1=>by simp only [execOp,hop]; rfl,ev_ok hs hG hv d⟩
  ·cases h
 ·rename_i x hop
  simp only [hop] at h
  split at h
  ·rename_i v' hv
   simp only [ok,sI,sM,true_and,and_true] at h
   subst h
   exact ⟨_,fun w1=>by simp only [execOp,hop]; rfl,ev_ok hs hG hv d⟩
  ·cases h
 ·rename_i x hop
  have main:∀ v',ev E.C s.env x = some v'→v'.isPtr = true→∃ z,(∀ w1,(execOp (Act.eval ⟨tm,d⟩) o).run P w1 = .ok (.value z) w1)∧VR g v' z:=by
   intro v' hv hp
   have h1:=ev_ok hs hG hv d
   obtain ⟨ad,h3⟩:=zfn h1 hp
   rw [h3] at h1
   exact ⟨_,fun w1=>by simp only [execOp,hop,h3]; rfl,h1⟩
  simp only [hop] at h
  split at h
  ·rename_i hv
   simp only [ok,sI,sM,true_and,and_true] at h
   subst h
   exact main _ hv rfl
  ·rename_i hv
   simp only [ok,sI,sM,true_and,and_true] at h
   subst h
   exact main _ hv rfl
  ·rename_i hv
   simp only [ok,sI,sM,true_and,and_true] at h
   subst h
   exact main _ hv rfl
  ·cases h
 ·rename_i t x f hop
  simp only [hop] at h
  split at h
  ·rename_i a ha
   have hv:=ev_ok hs hG ha d
   obtain ⟨_,z,_,k2⟩:=zc0 (w:=w) hC h hv
   have key:∃ z,(∀ w1,(Instr.fieldAt t (Act.eval ⟨tm,d⟩ x) f).run P w1 = .ok z w1)∧VR g v z:=by
    have hz:∀ w1,∃ z,(Instr.fieldAt t (Act.eval ⟨tm,d⟩ x) f).run P w1 = .ok z w1∧VR g v z:=fun w1=>(zc0 (w:=w1) hC h hv).2
    unfold zdv at h
    split at h
    ·rename_i o' ft hf
     unfold zd6 at hf
     split at hf
     ·rename_i fs hu
      split at h
      ·cases h
      ·rename_i hsz
       have hform:∃ blk off,Act.eval ⟨tm,d⟩ x = .pointer (some ⟨blk,off,none⟩):=by
        split at h
        ·obtain ⟨blk,off,cs',e1,_⟩:=hv
         simp only [sC,and_true] at e1
         exact ⟨_,_,e1⟩
        ·obtain ⟨gb,blk,_,_,_,_,e1⟩:=hv
         simp only [sC,and_true] at e1
         exact ⟨_,_,e1⟩
        ·obtain ⟨gb,blk,_,_,_,_,e1⟩:=hv
         simp only [sC,and_true] at e1
         exact ⟨_,_,e1⟩
        ·obtain ⟨gb,blk,_,_,_,_,_,e1⟩:=hv
         simp only [sC,and_true] at e1
         exact ⟨_,_,e1⟩
        ·cases h
       obtain ⟨blk,off,e⟩:=hform
       obtain ⟨z,hz1,hz2⟩:=hz w
       refine ⟨z,fun w1=>?_,hz2⟩
       rw [e] at hz1 ⊢
       rw [zcp hC hu hf hsz] at hz1 ⊢
       cases hz1
       rfl
     ·cases hf
    ·cases h
   obtain ⟨z,hz1,hz2⟩:=key
   exact ⟨z,fun w1=>by simp only [execOp,hop,Sem.run_bind,hz1]; rfl,hz2⟩
  ·cases h
 ·rename_i x i hop
  simp only [hop] at h
  split at h
  ·rename_i vs hv
   split at h
   ·rename_i u hu
    simp only [ok,sI,sM,true_and,and_true] at h
    subst h
    obtain ⟨arr,e1,e2⟩:=ev_ok hs hG hv d
    have get:∀ {vs:List AV} {cs:List Value} {i:Nat} {u:AV},TsR g vs cs→vs[i]? = some u→∃ c,cs[i]? = some c∧VR1 g u c:=by
     intro vs
     induction vs with
     | nil=>intro cs i u _ h; simp at h
     | cons a vs ih =>
      intro cs i u ht h
      cases cs with
      | nil=>exact ht.elim
      | cons c cs =>
       cases i with
       | zero=>simp only [List.getElem?_cons_zero,sI] at h; subst h; exact ⟨c,rfl,ht.1⟩
       | succ i =>
        obtain ⟨c',k1,k2⟩:=ih (i:=i) ht.2 (by simpa using h)
        exact ⟨c',by simpa using k1,k2⟩
    obtain ⟨c,k1,k2⟩:=get e2 hu
    refine ⟨c,fun w1=>?_,k2.vr'⟩
    have:arr[i]? = some c:=by rw [← Array.getElem?_toList]; exact k1
    simp only [execOp,hop,e1,Instr.extract,this]
    rfl
   ·cases h
  ·cases h
 ·rename_i t x i hop
  simp only [hop] at h
  split at h
  ·rename_i a bb ha hb
   obtain ⟨_,z,h1,h2⟩:=zei hC hs h (ev_ok hs hG ha d) (ev_ok hs hG hb d)
   exact ⟨z,fun w1=>by simp only [execOp,hop,Sem.run_bind,h1 w1]; rfl,h2⟩
  ·cases h
 ·cases h2
theorem zdq {fz:Nat→Nat→Option Value} {k:IntKind}:∀ {l:List Int} {cs:List Value},Elems (CR fz (.int k)) l cs→cs = l.map (Value.int k)
 | [],_,h=>h
 | x :: l,cs,h=>by
  obtain ⟨c1,c2,rfl,h1,h2⟩:=h
  have h3:c1 = [Value.int k x]:=h1
  rw [h3,zdq h2]
  rfl
theorem zml {g:Gh} {v:AV} (hr:v.scal = true) {a b:Value} (ha:VR g v a) (hb:VR g v b):a = b:=by
 unfold AV.scal at hr
 split at hr
 ·rename_i k x
  have h1:[a] = [Value.int k x]:=ha
  have h2:[b] = [Value.int k x]:=hb
  simp only [sC,and_true] at h1 h2
  rw [h1,h2]
 ·rename_i x
  have h1:[a] = [Value.bool x]:=ha
  have h2:[b] = [Value.bool x]:=hb
  simp only [sC,and_true] at h1 h2
  rw [h1,h2]
 ·rename_i x
  have h1:[a] = [Value.string x]:=ha
  have h2:[b] = [Value.string x]:=hb
  simp only [sC,and_true] at h1 h2
  rw [h1,h2]
 ·rename_i n k x
  obtain ⟨u,rfl,_,h1⟩:=ha
  obtain ⟨u',rfl,_,h2⟩:=hb
  rw [Array.toList_inj.1 ((zdq h1).trans (zdq h2).symm)]
 ·cases hr
theorem pure_ok (hC:CfgOK E.C P) {g:Gh} {s:St} {tm:Array Value} {T:List (Array Value)} {w:World} (hs:StR g s tm T w) (hG:zay E.C g.fz) {base:Nat} {o:Oper} (hin:zdh o = true) {v:AV} (hv:v.scal = true) (h:execA E.C base o s = some (true,v,.none)) (d:List Deferred) :
  ∃ z,(∀ w1,(execOp (Act.eval ⟨tm,d⟩) o).run P w1 = .ok (.value z) w1)∧VR g v z:=by
 have key:∀ (f:World→Prop) (R:Value→World→Prop),(∀ w1,∃ z,R z w1∧VR g v z)→∃ z,(∀ w1,R z w1)∧VR g v z:=by
  intro f R hall
  obtain ⟨z,_,hz⟩:=hall w
  refine ⟨z,fun w1=>?_,hz⟩
  obtain ⟨z1,h1,h2⟩:=hall w1
  rw [zml hv hz h2]
  exact h1
 unfold zdh at hin
 simp only [sA] at hin
 have h2:=hin.2
 split at h2
 ·cases h2
 ·rename_i op t x y yt hne hop
  unfold execA at h
  simp only [hop] at h
  refine key (fun _=>True) (fun z w1=>(execOp (Act.eval ⟨tm,d⟩) o).run P w1 = .ok (.value z) w1) fun w1=>?_
  have hh:(match ev E.C s.env x,ev E.C s.env y with | some a,some b=>binV E.C op t a b | _,_=>none) = some (true,v,.none):=by
   clear h2 hop
   cases y with
   | const c=>cases c <;> first | exact h | exact (hne rfl).elim
   | _=>exact h
  split at hh
  ·rename_i a b ha hb
   obtain ⟨_,z,k1,k2⟩:=zlX hC hh (w:=w1) (ev_ok hs hG ha d) (ev_ok hs hG hb d) x y
   exact ⟨z,by simp only [execOp,hop]; rw [Sem.run_bind,k1]; rfl,k2⟩
  ·cases hh
 ·rename_i op t x hop
  unfold execA at h
  simp only [hop] at h
  split at h
  ·rename_i a ha
   refine key (fun _=>True) (fun z w1=>(execOp (Act.eval ⟨tm,d⟩) o).run P w1 = .ok (.value z) w1) fun w1=>?_
   obtain ⟨_,z,k1,k2⟩:=znV (w:=w1) h (ev_ok hs hG ha d)
   exact ⟨z,by simp only [execOp,hop]; rw [Sem.run_bind,k1]; rfl,k2⟩
  ·cases h
 ·cases h2
theorem zk3 {o:Oper} (h:zdh o = true) (w:World) (ρ:Operand→Value):o.about P w ρ = none:=by
 unfold zdh at h
 simp only [sA] at h
 have h2:=h.2
 unfold Oper.about
 split at h2 <;> first | (cases h2; done) | (rename_i hop; rw [hop])
theorem zoF (hC:CfgOK E.C P) {g:Gh} {s:St} {tm:Array Value} {T:List (Array Value)} {w:World} (hs:StR g s tm T w) (hG:zay E.C g.fz) {base:Nat} {o:Oper} (hin:ziY E s o = true) {v:AV} (hpv:(!zdh o || v.scal) = true) (h:execA E.C base o s = some (true,v,.none)) (d:List Deferred) :
  ∃ z blk off cs,Fz1 g.fz blk off cs∧(∀ w1,zaE w1 blk off cs→(execOp (Act.eval ⟨tm,d⟩) o).run P w1 = .ok (.value z) w1)∧VR g v z∧o.guard = none∧(∀ w1 ρ,o.about P w1 ρ = none)∧soft o = true:=by
 unfold ziY at hin
 cases hi:inert o with
 | true =>
  obtain ⟨z,h1,h2⟩:=zns hC hs hG hi h d
  refine ⟨z,0,0,[],⟨fun j v e=>by simp at e,fun _ h=>nomatch h⟩,fun w1 _=>h1 w1,h2,?_,fun w1 ρ=>zk2 hi w1 ρ,by simp [soft,hi]⟩
  unfold inert at hi
  simp only [sA,Option.isNone_iff_eq_none] at hi
  exact hi.1
 | false =>
  cases hpu:zdh o with
  | true =>
   rw [hpu,Bool.not_true,Bool.false_or] at hpv
   obtain ⟨z,h1,h2⟩:=pure_ok hC hs hG hpu hpv h d
   refine ⟨z,0,0,[],⟨fun j v e=>by simp at e,fun _ h=>nomatch h⟩,fun w1 _=>h1 w1,h2,?_,fun w1 ρ=>zk3 hpu w1 ρ,by simp [soft,hpu]⟩
   unfold zdh at hpu
   simp only [sA,Option.isNone_iff_eq_none] at hpu
   exact hpu.1
  | false =>
  rw [hi,hpu,Bool.or_false,Bool.false_or,sA] at hin
  obtain ⟨hl,hp⟩:=hin
  have hgd:=zgQ hl
  have hab:∀ (w1:World) (ρ:Operand→Value),o.about P w1 ρ = none:=fun w1 ρ=>zgP hl w1 ρ
  unfold execA at h
  split at hp
  ·rename_i t a hop
   simp only [hop] at h
   split at hp
   ·rename_i gs hev
    simp only [hev,loadV] at h
    have ha:GR g (.eptr gs) [Act.eval ⟨tm,d⟩ a]:=ev_ok hs hG hev d
    obtain ⟨blk,off,cs',e1,h1,h2⟩:=ha
    simp only [sC,and_true] at e1
    obtain ⟨_,x,k1,k2⟩:=loadAt_all hC h (blk:=blk) (off:=off) h1.gsR
    refine ⟨x,blk,off,cs',⟨h2,h1.one⟩,fun w1 hw1=>?_,k2.vr',hgd,hab,by simp [soft,hl]⟩
    have hr:(Instr.loadAt t (Act.eval ⟨tm,d⟩ a)).run P w1 = .ok x w1:=by
     rw [e1]
     simp only [Instr.loadAt,Instr.sureAddr,Sem.run_bind,Sem.run_pure,Result.andThen_ok]
     exact k1 w1 hw1
    simp only [execOp,hop,Sem.run_bind,hr]
    rfl
   ·cases hp
  ·cases hp
def Off (D:List Nat) (a b:Array Value):Prop:=a.size = b.size∧∀ t,t ∉ D→a.getD t undef = b.getD t undef
theorem Off.refl (D:List Nat) (a:Array Value):Off D a a:=⟨rfl,fun _ _=>rfl⟩
theorem Off.put {D:List Nat} {a b:Array Value} (h:Off D a b) {t:Nat} (ht:t∈D) (z:Value):Off D a (b.setIfInBounds t z) :=
 ⟨by rw [Array.size_setIfInBounds]; exact h.1,fun u hu=>by
  rw [h.2 u hu]
  have hne:t ≠ u:=fun e=>hu (e ▸ ht)
  rw [Array.getD_eq_getD_getElem?,Array.getD_eq_getD_getElem?,Array.getElem?_setIfInBounds_ne hne]⟩
def QOff (D:List Nat) (Q:Exit→Act→World→Prop):Exit→Act→World→Prop
 | .panic c,a,w=>∀ tm',Off D tm' a.tmps→Q (.panic c) ⟨tm',a.defers⟩ w
 | e,a,w=>Q e a w
theorem QOff.imp {D:List Nat} {Q:Exit→Act→World→Prop} {e:Exit} {a:Act} {w:World} (h:QOff D Q e a w):Q e a w:=by
 cases e <;> first | exact h | exact h a.tmps (Off.refl _ _)
theorem zgR {ops:Array Oper}:∀ {l:List Oper} {i:Nat},zjV i l = true→∀ k x,l[k]? = some x→∀ j∈V.deps x,j < i + k
 | [],_,_,k,x,h=>by simp at h
 | z :: l,i,h,k,x,hx=>by
  simp only [zjV,sA] at h
  cases k with
  | zero =>
   simp only [List.getElem?_cons_zero,sI] at hx
   subst hx
   exact fun j hj=>Nat.le_of_ble_eq_true (List.all_eq_true.1 h.1 j hj)
  | succ k =>
   intro j hj
   have:=zgR (ops:=ops) h.2 k x (by simpa using hx) j hj
   omega
structure Hd where
 dep:Nat→Prop
 S:World→Prop
def zcb (F:Fence) (n:Nat) (P:Program) (ops:Array Oper) (Q:Exit→Act→World→Prop) (hs:List Hd):Nat→Array Bool→Act→World→Prop
 | 0,listed,a,w=>Region.ready .any ops listed = []∧Q .normal a w
 | fuel + 1,listed,a,w =>
  (Region.ready .any ops listed = []→Q .normal a w) ∧
  ∀ i∈Region.ready .any ops listed,wpOpIn F n P ops Q i (fun a' w'=>(∀ h∈hs,(∀ k,h.dep k→(listed.setIfInBounds i true).getD k true = false)→h.S w')∧zcb F n P ops Q hs fuel (listed.setIfInBounds i true) a' w') a w
theorem zcb.plain {F:Fence} {n:Nat} {ops:Array Oper} {Q:Exit→Act→World→Prop}:∀ (fuel:Nat) {listed:Array Bool} {a:Act} {w:World},zcb F n P ops Q [] fuel listed a w→wpAnyIn F n P .any ops Q fuel listed a w
 | 0,_,_,_,h=>h
 | fuel + 1,_,_,_,h=>⟨h.1,fun i hi=>wpOpIn_mono (fun _ _ h'=>zcb.plain fuel h'.2) (h.2 i hi)⟩
structure YX (P:Program) (ops:Array Oper) (S:World→Prop) (o:Oper) (v:Value) (a:Act):Prop where
 want:Region.wanted o (yielded ops a.tmps) = true
 run:∀ w,S w→(execOp a.eval o).run P w = .ok (.value v) w
 about:∀ w,o.about P w a.eval = none
theorem YX.put {ops:Array Oper} {S:World→Prop} {o:Oper} {v:Value} {a:Act} (h:YX P ops S o v a) (hsel:∀ cs b,o.op ≠ .select cs b) {dst:Option Tmp} {u:Value} (hd:∀ d,dst = some d→d ∉ o.looksAt ops):YX P ops S o v (a.put dst u) :=
 ⟨(wanted_put o a dst u hd).trans h.want,fun w hw=>by rw [execOp_put o hsel a dst u hd]; exact h.run w hw,fun w=>(about_put o w a dst u hd).trans (h.about w)⟩
theorem YX.defer {ops:Array Oper} {S:World→Prop} {o:Oper} {v:Value} {a:Act} (h:YX P ops S o v a) (d:List Deferred):YX P ops S o v { a with defers:=d }:=⟨h.want,h.run,h.about⟩
theorem YX.wpOpIn {F:Fence} {n:Nat} {ops:Array Oper} {S:World→Prop} {Q:Exit→Act→World→Prop} {i:Nat} {o:Oper} {v:Value} {a:Act} (hro:F.round = none) (hi:ops[i]? = some o) (hy:YX P ops S o v a) {K:Act→World→Prop} {w:World} (hw:S w) (h:K (a.put o.dst v) w):wpOpIn F n P ops Q i K a w:=by
 unfold Go.wpOpIn
 simp only [hi,hy.want,if_true,Oper.wpIn,hro,Oper.semAt_none,hy.run w hw,Oper.uponIn]
 exact ⟨fun f hf=>(by rw [hy.about w] at hf; cases hf),h⟩
theorem zjB {F:Fence} {n:Nat} {ops:Array Oper} {S:World→Prop} {Q:Exit→Act→World→Prop} {j:Nat} {oi oj:Oper} {v:Value} (hro:F.round = none) (hj:ops[j]? = some oj) (hap:oi.apart ops oj = true)
  (hsi:∀ cs b,oi.op ≠ .select cs b) (hsj:∀ cs b,oj.op ≠ .select cs b)
  (hQ:∀ c a w,Q (.panic c) (a.put oi.dst v) w→Q (.panic c) a w) {K:Act→World→Prop} {a:Act} {w:World}
  (hy:YX P ops S oi v a) (h:wpOpIn F n P ops Q j K (a.put oi.dst v) w) :
  wpOpIn F n P ops Q j (fun a' w'=>YX P ops S oi v a'∧K (a'.put oi.dst v) w') a w:=by
 obtain ⟨h1,h2,h3⟩:=Oper.apart_spec hap
 have keep:∀ u,YX P ops S oi v (a.put oj.dst u):=fun u=>hy.put hsi h3
 unfold wpOpIn at *
 simp only [hj] at *
 rw [wanted_put oj a oi.dst v h1,about_put oj w a oi.dst v h1] at h
 split
 ·rename_i hw
  simp only [hw,if_true] at h
  unfold Oper.wpIn at *
  rw [about_put oj w a oi.dst v h1] at h
  refine ⟨h.1,?_⟩
  have h:=h.2
  rw [hro,Oper.semAt_none,execOp_put oj hsj a oi.dst v h1] at h
  rw [hro,Oper.semAt_none]
  generalize (execOp a.eval oj).run P w = r at *
  cases r with
  | ok x w' =>
   cases x <;> simp only [Oper.uponIn] at h ⊢
   case value u=>exact ⟨keep u,by rw [← Act.put_comm a v u h2]; exact h⟩
   case skip=>exact ⟨keep _,by rw [← Act.put_comm a v undef h2]; exact h⟩
   case defer d =>
    refine ⟨(hy.defer _).put hsi h3,?_⟩
    rw [← Act.put_comm _ v undef h2,← Act.put_defers]
    exact h
   case enter f args =>
    refine ⟨h.1,CallsIn.mono h.2 fun e w'' he=>?_⟩
    cases e with
    | returned u=>exact ⟨keep u,by rw [← Act.put_comm a v u h2]; exact he⟩
    | panicked c=>exact hQ _ _ _ he
    | outgrown=>exact he
   case row row args=>exact ⟨h.1,RowsIn.mono h.2 fun u w'' he=>⟨keep u,by rw [← Act.put_comm a v u h2]; exact he⟩⟩
   case round l f tmps assign body =>
    refine ⟨h.1,RoundIn.mono h.2 fun e w'' he=>?_⟩
    cases e with
    | returned u=>exact ⟨keep u,by rw [← Act.put_comm a v u h2]; exact he⟩
    | panicked c=>exact hQ _ _ _ he
    | outgrown=>exact he
  | halt x w' =>
   cases x <;> simp only [Oper.uponIn] at h ⊢
   case panic u=>exact hQ _ _ _ h
 ·rename_i hw
  simp only [hw] at h
  exact ⟨h.1,keep _,by rw [← Act.put_comm a v undef h2]; exact h.2⟩
theorem zes {listed:Array Bool} {i k:Nat} (h:(listed.setIfInBounds i true).getD k true = false):listed.getD k true = false∧k ≠ i:=by
 by_cases hik:i = k
 ·subst hik
  rw [Array.getD_eq_getD_getElem?] at h
  by_cases hl:i < listed.size
  ·rw [Array.getElem?_setIfInBounds_self_of_lt hl] at h; cases h
  ·rw [Array.getElem?_eq_none (by simpa using hl)] at h; cases h
 ·exact ⟨by rwa [getD_set_ne true hik] at h,Ne.symm hik⟩
theorem zcb.tail {F:Fence} {n:Nat} {ops:Array Oper} {Q:Exit→Act→World→Prop} {hs:List Hd} {h0:Hd}:∀ (fuel:Nat) {listed:Array Bool} {a:Act} {w:World},zcb F n P ops Q (h0 :: hs) fuel listed a w→zcb F n P ops Q hs fuel listed a w
 | 0,_,_,_,h=>h
 | fuel + 1,_,_,_,h=>⟨h.1,fun i hi=>wpOpIn_mono (fun _ _ h'=>⟨fun x hx=>h'.1 x (List.mem_cons_of_mem _ hx),zcb.tail fuel h'.2⟩) (h.2 i hi)⟩
def Closed (ops:Array Oper) (listed:Array Bool):Prop:=∀ k o,ops[k]? = some o→Done listed k→∀ d∈deps o,Done listed d
theorem Closed.set {ops:Array Oper} {listed:Array Bool} (h:Closed ops listed) {j:Nat} (hj:j∈Region.ready .any ops listed):Closed ops (listed.setIfInBounds j true):=by
 obtain ⟨hj0,o,hoj,hdep⟩:=mem_ready.1 hj
 obtain ⟨hjs,hnd⟩:=ziy hj0
 intro k o' hk hd d hdd
 rw [zbo hjs] at hd ⊢
 rcases hd with rfl | hd
 ·rw [hoj] at hk
  cases hk
  obtain ⟨e,he,rfl⟩:=List.mem_map.1 hdd
  obtain ⟨he1,he2⟩:=List.mem_filter.1 he
  exact .inr (hdep e (by simpa using he1) he2)
 ·exact .inr (h k o' hk hd d hdd)
def Hd.live (h:Hd) (listed:Array Bool):Prop:=∀ k,h.dep k→listed.getD k true = false
theorem Hd.live_set {h:Hd} {listed:Array Bool} {i:Nat} (hl:h.live (listed.setIfInBounds i true)):h.live listed:=fun k hk=>(zes (hl k hk)).1
theorem ze6 {F:Fence} {n:Nat} {ops:Array Oper} {Q:Exit→Act→World→Prop} {hs:List Hd} {h0:Hd} {i:Nat} {oi:Oper} {v:Value} (hro:F.round = none) (hi:ops[i]? = some oi) (hsel:∀ (j:Nat) (o:Oper) cs b,ops[j]? = some o→o.op ≠ .select cs b)
  (hQ:∀ c a w,Q (.panic c) (a.put oi.dst v) w→Q (.panic c) a w) (hnd:∀ h∈hs,¬ h.dep i) (hni:¬ h0.dep i)
  (hdep:∀ listed:Array Bool,listed.size = ops.size→listed.getD i true = false→Closed ops listed→h0.live listed) :
  ∀ (fuel:Nat) (listed:Array Bool) (a:Act) (w:World),
   listed.size = ops.size→Closed ops listed →
   (∀ j oj,ops[j]? = some oj→j ≠ i→listed.getD j true = false→(∀ e∈oj.after,Region.binds .any e = true→e.on ≠ i)→oi.apart ops oj = true) →
   i∈Region.ready .any ops listed→YX P ops h0.S oi v a→h0.S w→(∀ h∈hs,h.live listed→h.S w) →
   zcb F n P ops Q (h0 :: hs) fuel (listed.setIfInBounds i true) (a.put oi.dst v) w→zcb F n P ops Q hs (fuel + 1) listed a w:=by
 intro fuel
 induction fuel with
 | zero =>
  intro listed a w hsz hcl _ hr hy hS hS' H
  refine ⟨fun h=>(by rw [h] at hr; cases hr),fun j hj=>?_⟩
  by_cases hji:j = i
  ·subst hji
   exact hy.wpOpIn hro hi hS ⟨fun h hh hl=>hS' h hh (Hd.live_set hl),H.tail⟩
  ·have:=ready_mono hj hji
   rw [H.1] at this
   cases this
 | succ fuel ih =>
  intro listed a w hsz hcl hfree hr hy hS hS' H
  refine ⟨fun h=>(by rw [h] at hr; cases hr),fun j hj=>?_⟩
  by_cases hji:j = i
  ·subst hji
   exact hy.wpOpIn hro hi hS ⟨fun h hh hl=>hS' h hh (Hd.live_set hl),H.tail⟩
  ·have h1:=H.2 j (ready_mono hj hji)
   obtain ⟨hjun,oj,hoj,hall⟩:=mem_ready.1 hj
   have hnot:∀ e∈oj.after,Region.binds .any e = true→e.on ≠ i:=fun e he hb heq=>by
    have h1:=hall e he hb
    have h0:=(mem_ready.1 hr).1
    rw [heq] at h1
    rcases Nat.lt_or_ge i listed.size with h' | h'
    ·simp [h'] at h0 h1; rw [h0] at h1; cases h1
    ·simp [Array.getElem?_eq_none h'] at h1
   have h2:=zjB hro hoj (hfree j oj hoj hji hjun hnot) (fun cs b=>hsel i oi cs b hi) (fun cs b=>hsel j oj cs b hoj) hQ hy h1
   have hr':=ready_mono hr (Ne.symm hji)
   have hcl':=hcl.set hj
   have hsz':(listed.setIfInBounds j true).size = ops.size:=by simp [hsz]
   have two:∀ h:Hd,¬ h.dep i→h.live (listed.setIfInBounds j true)→h.live ((listed.setIfInBounds i true).setIfInBounds j true):=by
    intro h hi' hl k hk
    have hki:i ≠ k:=fun e=>hi' (e ▸ hk)
    rw [Array.setIfInBounds_comm _ _ (Ne.symm hji),getD_set_ne true hki]
    exact hl k hk
   refine wpOpIn_mono (fun a' w' h3=>⟨fun h hh hl=>h3.2.1 h (List.mem_cons_of_mem _ hh) (two h (hnd h hh) hl),?_⟩) h2
   refine ih (listed.setIfInBounds j true) a' w' hsz' hcl' (fun k ok hok hki hun=>hfree k ok hok hki (zes hun).1) hr' h3.1 ?_ ?_ ?_
   ·exact h3.2.1 h0 (List.mem_cons_self ..) (two h0 hni (hdep _ hsz' (mem_ready.1 hr').1 hcl'))
   ·exact fun h hh hl=>h3.2.1 h (List.mem_cons_of_mem _ hh) (two h (hnd h hh) hl)
   ·rw [Array.setIfInBounds_comm _ _ hji]
    exact h3.2.2
theorem znt {g:Gh} {v:AV} (hr:v.rigid = true) {a b:Value} (ha:VR g v a) (hb:VR g v b):a = b:=by
 have key:∀ {v:AV},v.rigid = true→∀ {a b:Value},GR g v [a]→GR g v [b]→a = b:=by
  intro v hr a b ha hb
  unfold AV.rigid at hr
  split at hr
  ·rename_i k
   obtain ⟨gb,x,e1,_,e2,e3⟩:=ha
   obtain ⟨gb',x',e1',_,e2',e3'⟩:=hb
   rw [e1] at e1'
   cases e1'
   simp only [sC,and_true] at e2 e2'
   subst e2 e2'
   unfold WinR at e3 e3'
   cases hb:gb.blk with
   | none=>rw [hb] at e3 e3'; exact e3.1.trans e3'.1.symm
   | some blk=>rw [hb] at e3 e3'; exact e3.trans e3'.symm
  all_goals first
   | (cases hr; done)
   | (simp only [GR,sC,and_true] at ha hb; exact ha.trans hb.symm)
   | skip
  ·obtain ⟨gb,r,e1,_,e2,e3⟩:=ha
   obtain ⟨gb',r',e1',_,e2',e3'⟩:=hb
   rw [e1] at e1'
   cases e1'
   rw [e2] at e2'
   cases e2'
   simp only [sC,and_true] at e3 e3'
   exact e3.trans e3'.symm
  ·obtain ⟨gb,r,e1,_,e2,_,e3⟩:=ha
   obtain ⟨gb',r',e1',_,e2',_,e3'⟩:=hb
   rw [e1] at e1'
   cases e1'
   rw [e2] at e2'
   cases e2'
   simp only [sC,and_true] at e3 e3'
   exact e3.trans e3'.symm
 have down:∀ {v:AV},v.rigid = true→∀ {a:Value},VR g v a→GR g v [a]:=by
  intro v hr a ha
  unfold AV.rigid at hr
  split at hr <;> first
   | (cases hr; done)
   | exact ha
 exact key hr (down hr ha) (down hr hb)
theorem zko (hC:CfgOK E.C P) {g:Gh} {s:St} {tm:Array Value} {T:List (Array Value)} {w:World} (hs:StR g s tm T w) (hG:zay E.C g.fz) {base:Nat} {o:Oper} (hin:isLoad o = true) {v:AV} (h:execA E.C base o s = some (true,v,.none)) (d:List Deferred) :
  ∃ z,(execOp (Act.eval ⟨tm,d⟩) o).run P w = .ok (.value z) w∧VR g v z:=by
 unfold isLoad at hin
 simp only [sA] at hin
 have h2:=hin.2
 unfold execA at h
 split at h2
 ·rename_i t x hop
  simp only [hop] at h
  split at h
  ·rename_i a ha
   obtain ⟨_,y,h3,h4⟩:=zho hC hs h (ev_ok hs hG ha d)
   exact ⟨y,by simp only [execOp,hop,Sem.run_bind,h3]; rfl,h4.vr'⟩
  ·cases h
 ·cases h2
theorem zkp {o:Oper} (h:isLoad o = true):∀ cs b,o.op ≠ .select cs b:=by
 intro cs b hb
 unfold isLoad at h
 rw [hb] at h
 simp at h
def zet (ops:Array Oper) (p k:Nat):Prop:=∃ ok,ops[k]? = some ok∧soft ok = false∧ahead (masks ops.toList []) p k = true
structure Took (P:Program) (ops:Array Oper) (ds:List Deferred) (tm:Array Value) (h:Hd) (p:Nat):Prop where
 dep:h.dep = zet ops p
 at_:∃ o d,ops[p]? = some o∧isLoad o = true∧o.dst = some d∧d < tm.size∧(∀ w,h.S w ↔ (execOp (Act.eval ⟨tm,ds⟩) o).run P w = .ok (.value (tm.getD d undef)) w)
theorem zdT {l:List Nat} {d:Nat} (h:l.contains d = false):d ∉ l:=fun hm=>by rw [List.contains_iff_mem.2 hm] at h; cases h
theorem Took.put {ops:Array Oper} {ds:List Deferred} {tm:Array Value} {h:Hd} {p:Nat} (hk:Took P ops ds tm h p) {dst:Option Nat} (hkp:keeps ops dst p = true) (z:Value):Took P ops ds (Act.put ⟨tm,ds⟩ dst z).tmps h p:=by
 obtain ⟨o,d,h1,h2,h3,h4,h5⟩:=hk.at_
 refine ⟨hk.dep,o,d,h1,h2,h3,by rw [zbM]; exact h4,fun w=>?_⟩
 unfold keeps at hkp
 rw [h1] at hkp
 have e1:execOp (Act.eval ⟨(Act.put ⟨tm,ds⟩ dst z).tmps,ds⟩) o = execOp (Act.eval ⟨tm,ds⟩) o:=by
  rw [← put_defers]
  refine execOp_put (ops:=ops) o (zkp h2) _ dst z (fun u hu=>?_)
  rw [hu] at hkp
  simp only [sA,Bool.not_eq_true'] at hkp
  exact zdT hkp.1
 have e2:(Act.put ⟨tm,ds⟩ dst z).tmps.getD d undef = tm.getD d undef:=by
  cases dst with
  | none=>rfl
  | some u =>
   have hne:u ≠ d:=by
    intro e
    simp only [h3,sA,Bool.not_eq_true'] at hkp
    have:=hkp.2
    rw [e,Nat.beq_refl] at this
    cases this
   show (tm.setIfInBounds u z).getD d undef = _
   rw [Array.getD_eq_getD_getElem?,Array.getD_eq_getD_getElem?,Array.getElem?_setIfInBounds_ne hne]
 rw [e1,e2]
 exact h5 w
def Heads (P:Program) (g:Gh) (ops:Array Oper) (ds:List Deferred) (tm:Array Value) (listed:Array Bool) (held:List Nat) (hs:List Hd):Prop :=
 ∀ h∈hs,(∀ k,h.dep k→∃ ok,ops[k]? = some ok∧soft ok = false) ∧
  ((∃ p∈held,Took P ops ds tm h p) ∨ (∃ blk off cs,Fz1 g.fz blk off cs∧∀ w,zaE w blk off cs→h.S w) ∨ (∃ k,h.dep k∧listed.getD k true = true))
theorem Heads.mono {g g':Gh} {ops:Array Oper} {ds:List Deferred} {tm:Array Value} {listed:Array Bool} {held:List Nat} {hs:List Hd} (H:Heads P g ops ds tm listed held hs) (hf:∀ b o v,g.fz b o = some v→g'.fz b o = some v):Heads P g' ops ds tm listed held hs:=by
 intro h hm
 obtain ⟨h1,h2⟩:=H h hm
 refine ⟨h1,?_⟩
 rcases h2 with h2 | ⟨blk,off,cs,h3,h4⟩ | h2
 ·exact .inl h2
 ·exact .inr (.inl ⟨blk,off,cs,h3.mono hf,h4⟩)
 ·exact .inr (.inr h2)
theorem ziB {listed:Array Bool} {i k:Nat} (h:listed.getD k true = true):(listed.setIfInBounds i true).getD k true = true:=by
 rw [← Bool.not_eq_false]
 intro h'
 rw [(zes h').1] at h
 cases h
theorem ziC {listed:Array Bool} {i:Nat}:(listed.setIfInBounds i true).getD i true = true:=by
 rw [← Bool.not_eq_false]
 intro h'
 exact (zes h').2 rfl
theorem Heads.put {g:Gh} {ops:Array Oper} {ds:List Deferred} {tm:Array Value} {listed:Array Bool} {held held':List Nat} {hs:List Hd} (H:Heads P g ops ds tm listed held hs) (i:Nat) {dst:Option Nat} (hk:held.all (keeps ops dst) = true) (z:Value)
  (hh:∀ p∈held,p∈held' ∨ zet ops p i):Heads P g ops ds (Act.put ⟨tm,ds⟩ dst z).tmps (listed.setIfInBounds i true) held' hs:=by
 intro h hm
 obtain ⟨h1,h2⟩:=H h hm
 refine ⟨h1,?_⟩
 rcases h2 with ⟨p,hp,ht⟩ | h2 | ⟨k,hk,hl⟩
 ·rcases hh p hp with h3 | h3
  ·exact .inl ⟨p,h3,ht.put (List.all_eq_true.1 hk p hp) z⟩
  ·exact .inr (.inr ⟨i,by rw [ht.dep]; exact h3,ziC⟩)
 ·exact .inr (.inl h2)
 ·exact .inr (.inr ⟨k,hk,ziB hl⟩)
def Again (E:Env0) (base:Nat) (ops:Array Oper) (s:St) (p:Nat):Prop :=
 ∃ o v d,ops[p]? = some o∧execA E.C base o s = some (true,v,.none)∧o.dst = some d∧find s.env d = some v∧(v.rigid = true ∨ v.scal = true)
theorem zeV {R:Type} {E:Env0} {base:Nat} {ops:Array Oper} {s:St} {r:Option R} {x:R}:∀ {l:List Nat},gates E base ops s l r = some x→r = some x∧∀ p∈l,Again E base ops s p
 | [],h=>⟨h,fun _ h=>nomatch h⟩
 | p :: l,h=>by
  simp only [gates] at h
  split at h
  ·rename_i o ho
   split at h
   ·rename_i v d hx hd
    split at h
    ·rename_i u hu
     have key:∀ (e:v = u) (hr:v.rigid = true ∨ v.scal = true),gates E base ops s l r = some x→r = some x∧∀ p'∈p :: l,Again E base ops s p':=by
      intro e hr hg
      subst e
      obtain ⟨h1,h2⟩:=zeV hg
      refine ⟨h1,fun p' hp=>?_⟩
      rcases List.mem_cons.1 hp with rfl | hp
      ·exact ⟨o,v,d,ho,hx,hd,hu,hr⟩
      ·exact h2 p' hp
     cases hr:v.rigid with
     | true =>
      rw [hr,cond_true] at h
      cases hs:v.same u with
      | true=>rw [hs,cond_true] at h; exact key (same_eq hs) (.inl hr) h
      | false=>rw [hs] at h; cases h
     | false =>
      rw [hr,cond_false] at h
      cases hs:v.scal with
      | true =>
       rw [hs,cond_true] at h
       obtain ⟨e,h⟩:=ziX h
       exact key e (.inr hs) h
      | false=>rw [hs] at h; cases h
    ·cases h
   ·cases h
  ·cases h
theorem zgS (hE : EnvOK P E) {ops : Array Oper} {ds : List Deferred} {tm : Array Value} {listed : Array Bool} {held : List Nat} {hs : List Hd} {base : Nat}
    {g : Gh} {s : St} {T : List (Array Value)} {w : World} (hst : StR g s tm T w) (hG : zay E.C g.fz) (H : Heads P g ops ds tm listed held hs) (ha : ∀ p ∈ held, Again E base ops s p) :
    ∀ h ∈ hs, h.live listed → h.S w := by
  intro h hm hl
  rcases (H h hm).2 with ⟨p, hp, ht⟩ | h2 | ⟨k, hk, hk2⟩
  · obtain ⟨o, d, h1, h2, h3, h4, h5⟩ := ht.at_
    rw [h5]
    obtain ⟨o', v, d', k1, k2, k3, k4, k5⟩ := ha p hp
    rw [h1] at k1
    cases k1
    rw [h3] at k3
    cases k3
    obtain ⟨z, hz1, hz2⟩ := zko hE.cfg hst hG h2 k2 ds
    have he : tm.getD d undef = z := by
      rcases k5 with k5 | k5
      · exact znt k5 (hst.env d v k4) hz2
      · exact zml k5 (hst.env d v k4) hz2
    rw [he]
    exact hz1
  · obtain ⟨blk, off, cs, h3, h4⟩ := h2
    exact h4 w (h3.cells hst.fz)
  · rw [hl k hk] at hk2
    cases hk2
theorem zmm {ops:Array Oper} {p:Nat} (hD:∀ i x,ops[i]? = some x→∀ j∈V.deps x,j < i) {listed:Array Bool} (hsz:listed.size = ops.size) (hun:listed.getD p true = false) (hcl:Closed ops listed):∀ k,zet ops p k→listed.getD k true = false:=by
 rintro k ⟨ok,hk,_,ha⟩
 refine ziz (by rw [hsz]; exact (Array.getElem?_eq_some_iff.1 hk).1) fun hd=>(ziy hun).2 ?_
 exact zfY hD (S:=Done listed) hcl k k (Nat.le_refl _) ok hk (hcl k ok hk hd) p ha
theorem zmn {ops:Array Oper} {Q:Exit→Act→World→Prop} {j:Nat} {o:Oper} (hoj:ops[j]? = some o) (hin:soft o = true) (z:Value):∀ c a w,QOff (zbt ops) Q (.panic c) (a.put o.dst z) w→QOff (zbt ops) Q (.panic c) a w:=by
 intro c a w2 hq tm' hoff
 have hdf:(a.put o.dst z).defers = a.defers:=by cases o.dst <;> rfl
 have:=hq tm'
 rw [hdf] at this
 refine this ?_
 cases hd:o.dst with
 | none=>simpa [Act.put,hd] using hoff
 | some d =>
  have:d∈zbt ops:=by
   unfold zbt
   exact List.mem_filterMap.2 ⟨o,List.mem_filter.2 ⟨by simpa using Array.mem_of_getElem? hoj,hin⟩,hd⟩
  exact hoff.put this z
structure TrX (x:Option Nat) (g:Gh) (w:World) (g':Gh) (w':World):Prop where
 os:w'.os = w.os
 tape:w'.tape = w.tape
 output:w'.output = w.output
 size:w.heap.size≤w'.heap.size
 fz:∀ b o v,g.fz b o = some v→g'.fz b o = some v
 fzNew:∀ b o,g'.fz b o ≠ none→g.fz b o ≠ none ∨ w.heap.size≤b ∨ owned g b ∨ x = some b
 own:∀ b,owned g' b→owned g b ∨ w.heap.size≤b ∨ x = some b
 block:∀ b,b < w.heap.size→¬ owned g b→x ≠ some b→w'.heap[b]? = w.heap[b]?
theorem Tr.x {g g':Gh} {w w':World} (h:Tr g w g' w') (x:Option Nat):TrX x g w g' w' :=
 ⟨h.os,h.tape,h.output,h.size,h.fz,fun b o e=>(h.fzNew b o e).elim .inl fun e=>.inr (e.elim .inl fun e=>.inr (.inl e)),fun b e=>(h.own b e).elim .inl fun e=>.inr (.inl e),fun b h1 h2 _=>h.block b h1 h2⟩
theorem TrX.tr {g g':Gh} {w w':World} (h:TrX none g w g' w'):Tr g w g' w' :=
 ⟨h.os,h.tape,h.output,h.size,h.fz,fun b o e=>(h.fzNew b o e).elim .inl fun e=>.inr (e.elim .inl fun e=>e.elim .inr fun e=>(nomatch e)),fun b e=>(h.own b e).elim .inl fun e=>e.elim .inr fun e=>(nomatch e),fun b h1 h2=>h.block b h1 h2 (by simp)⟩
theorem Tr.transX {x:Option Nat} {g g1 g2:Gh} {w w1 w2:World} (h:Tr g w g1 w1) (k:TrX x g1 w1 g2 w2):TrX x g w g2 w2 where
 os:=k.os.trans h.os
 tape:=k.tape.trans h.tape
 output:=k.output.trans h.output
 size:=Nat.le_trans h.size k.size
 fz b o v e:=k.fz b o v (h.fz b o v e)
 fzNew b o e:=by
  have hs:=h.size
  rcases k.fzNew b o e with e | e | e | e
  ·rcases h.fzNew b o e with e | e | e
   ·exact .inl e
   ·exact .inr (.inl e)
   ·exact .inr (.inr (.inl e))
  ·exact .inr (.inl (Nat.le_trans hs e))
  ·rcases h.own b e with e | e
   ·exact .inr (.inr (.inl e))
   ·exact .inr (.inl e)
  ·exact .inr (.inr (.inr e))
 own b e:=by
  have hs:=h.size
  rcases k.own b e with e | e | e
  ·exact (h.own b e).elim .inl fun e=>.inr (.inl e)
  ·exact .inr (.inl (Nat.le_trans hs e))
  ·exact .inr (.inr e)
 block b h1 h2 h3:=by
  have hs:=h.size
  rw [k.block b (Nat.lt_of_lt_of_le h1 hs) (fun e=>by
   rcases h.own b e with e | e
   ·exact h2 e
   ·omega) h3]
  exact h.block b h1 h2
theorem TrX.new {blk:Nat} {g g2:Gh} {w w1 w2:World} (h:Tr g w g w1) (hb:w.heap.size≤blk) (k:TrX (some blk) g w1 g2 w2):TrX none g w g2 w2:=by
 have t:=h.transX k
 refine ⟨t.os,t.tape,t.output,t.size,t.fz,fun b o e=>?_,fun b e=>?_,fun b h1 h2 _=>t.block b h1 h2 (fun e=>by cases e; omega)⟩
 ·rcases t.fzNew b o e with e | e | e | e
  ·exact .inl e
  ·exact .inr (.inl e)
  ·exact .inr (.inr (.inl e))
  ·cases e; exact .inr (.inl hb)
 ·rcases t.own b e with e | e | e
  ·exact .inl e
  ·exact .inr (.inl e)
  ·cases e; exact .inr (.inl hb)
def HidOK (x:Option Nat) (g:Gh) (tm:Array Value) (w:World):Hid→Prop
 | none=>x = none
 | some h=>∃ blk zs,x = some blk∧tm.getD h.1 undef = .pointer (some ⟨blk,0,none⟩)∧blk < w.heap.size∧BlkIs w blk zs∧(∀ g,GsR g h.2.2 zs)∧¬ owned g blk∧∀ o,g.fz blk o = none
theorem HidOK.tr {x:Option Nat} {g g':Gh} {tm:Array Value} {w w':World} {hid:Hid} (h:HidOK x g tm w hid) (t:Tr g w g' w'):HidOK x g' tm w' hid:=by
 cases hid with
 | none=>exact h
 | some d =>
  obtain ⟨blk,zs,h1,h2,h3,h4,h5,h6,h7⟩:=h
  have ts:=t.size
  refine ⟨blk,zs,h1,h2,Nat.lt_of_lt_of_le h3 ts,?_,h5,fun e=>?_,fun o=>?_⟩
  ·unfold BlkIs at h4 ⊢
   rw [t.block blk h3 h6]
   exact h4
  ·rcases t.own blk e with e | e
   ·exact h6 e
   ·omega
  ·cases hf:g'.fz blk o with
   | none=>rfl
   | some v =>
    rcases t.fzNew blk o (by rw [hf]; simp) with e | e | e
    ·exact (e (h7 o)).elim
    ·omega
    ·exact (h6 e).elim
theorem HidOK.put {x:Option Nat} {g:Gh} {tm:Array Value} {w:World} {hid:Hid} (h:HidOK x g tm w hid) {dst:Option Nat} (hc:zdi hid dst = true) (z:Value) (ds:List Deferred):HidOK x g (Act.put ⟨tm,ds⟩ dst z).tmps w hid:=by
 cases hid with
 | none=>exact h
 | some d =>
  obtain ⟨blk,zs,h1,h2,h3⟩:=h
  refine ⟨blk,zs,h1,?_,h3⟩
  cases dst with
  | none=>exact h2
  | some u =>
   have hne:u ≠ d.1:=fun e=>by
    subst e
    simp [zdi] at hc
   show (tm.setIfInBounds u z).getD d.1 undef = _
   rw [Array.getD_eq_getD_getElem?,Array.getElem?_setIfInBounds_ne hne,← Array.getD_eq_getD_getElem?]
   exact h2
theorem ziD {x:Option Nat} {g:Gh} {s s':St} {tm:Array Value} {T:List (Array Value)} {w:World} (hs:StR g s tm T w) {h:Nat × Nat × List AV} (hh:HidOK x g tm w (some h)) (hu:zjS h s = some s') :
  ∃ g1,StR g1 s' tm T w∧g1.fz = g.fz∧∀ b,owned g1 b→owned g b ∨ x = some b:=by
 obtain ⟨blk,zs,rfl,h2,h3,h4,h5,h6,h7⟩:=hh
 unfold zjS at hu
 split at hu
 ·rename_i hk
  cases hu
  let gb:Gb:=⟨false,true,some blk,0,0,0,0,none⟩
  have hn:=hs.bxs.none hk
  have hx:=zeM gb hn
  refine ⟨g.put h.2.1 gb,⟨?_,hs.stk.grow hx,⟨?_,?_,?_⟩,fun b o v e=>hs.fz b o v e⟩,rfl,?_⟩
  ·intro m v e
   by_cases hm:h.1 = m
   ·subst hm
    rw [zad] at e
    cases e
    rw [h2]
    exact ⟨gb,blk,Gh.put_same _ _ _,rfl,rfl,(fun _ h=>nomatch h),rfl⟩
   ·rw [zab _ _ hm] at e
    exact hs.env.grow hx m v e
  ·intro k b' e
   by_cases hkk:h.2.1 = k
   ·subst hkk
    rw [zad] at e
    cases e
    exact ⟨gb,Gh.put_same _ _ _,rfl,rfl,blk,zs,rfl,h4,h5 _,h7⟩
   ·rw [zab _ _ hkk] at e
    obtain ⟨gb',e1,e2⟩:=hs.bxs.box k b' e
    refine ⟨gb',by rw [Gh.put_other _ _ (Ne.symm hkk)]; exact e1,e2.ext hx (fun _ _ _=>rfl) (fun _ _ _ _ h=>h) ?_⟩
    exact zaK _
  ·intro k gb' e
   by_cases hkk:h.2.1 = k
   ·subst hkk; show (find ((h.2.1,Box.var h.2.2) :: s.bxs) h.2.1).isSome = true; rw [zad]; rfl
   ·rw [Gh.put_other _ _ (Ne.symm hkk)] at e
    show (find ((h.2.1,Box.var h.2.2) :: s.bxs) k).isSome = true
    rw [zab _ _ hkk]
    exact hs.bxs.dom k gb' e
  ·intro k j a b' bl hne e1 e2 a1 a2 b1 b2
   by_cases hk1:k = h.2.1
   ·subst hk1
    rw [Gh.put_same] at e1
    cases e1
    rw [Gh.put_other _ _ (Ne.symm hne)] at e2
    cases a1
    exact h6 ⟨j,b',e2,b1,b2⟩
   ·rw [Gh.put_other _ _ hk1] at e1
    by_cases hj:j = h.2.1
    ·subst hj
     rw [Gh.put_same] at e2
     cases e2
     cases b1
     exact h6 ⟨k,a,e1,a1,a2⟩
    ·rw [Gh.put_other _ _ hj] at e2
     exact hs.bxs.sep k j a b' bl hne e1 e2 a1 a2 b1 b2
  ·rintro b' ⟨k,a,e1,e2,e3⟩
   by_cases hk1:k = h.2.1
   ·subst hk1
    rw [Gh.put_same] at e1
    cases e1
    exact .inr e2
   ·rw [Gh.put_other _ _ hk1] at e1
    exact .inl ⟨k,a,e1,e2,e3⟩
 ·cases hu
theorem TrX.show {x:Option Nat} {g g1 g2:Gh} {w w2:World} (hf:g1.fz = g.fz) (ho:∀ b,owned g1 b→owned g b ∨ x = some b) (k:TrX none g1 w g2 w2):TrX x g w g2 w2:=by
 have k:=k.tr
 refine ⟨k.os,k.tape,k.output,k.size,fun b o v e=>k.fz b o v (by rw [hf]; exact e),fun b o e=>?_,fun b e=>?_,fun b h1 h2 h3=>k.block b h1 (fun e=>?_)⟩
 ·rcases k.fzNew b o e with e | e | e
  ·rw [hf] at e; exact .inl e
  ·exact .inr (.inl e)
  ·exact .inr (.inr (ho b e))
 ·rcases k.own b e with e | e
  ·exact (ho b e).elim .inl fun e=>.inr (.inr e)
  ·exact .inr (.inl e)
 ·rcases ho b e with e | e
  ·exact h2 e
  ·exact h3 e
theorem TrX.showRefl {x:Option Nat} {g g1:Gh} {w:World} (hf:g1.fz = g.fz) (ho:∀ b,owned g1 b→owned g b ∨ x = some b):TrX x g w g1 w:=TrX.show hf ho ((Tr.refl g1 w).x none)
theorem znu {C:Cfg} (hC:CfgOK C P) {tm:Array Value} {w:World} {base:Nat} {o:Oper} {h:Nat × Nat × List AV} (hh:zg7 C base o = some h) (ds:List Deferred) :
  o.guard = none∧o.dst = some h.1∧(∀ c,o.op ≠ .defer c)∧∃ w' zs,(execOp (Act.eval ⟨tm,ds⟩) o).run P w = .ok (.value (.pointer (some ⟨w.heap.size,0,none⟩))) w'∧w.grownBy w' none∧w.heap.size < w'.heap.size∧BlkIs w' w.heap.size zs∧∀ g,GsR g h.2.2 zs:=by
 unfold zg7 at hh
 split at hh
 ·rename_i t d hg hop hd
  split at hh
  ·rename_i gs hz
   cases hh
   obtain ⟨i,z,hi,_,_,hiz,hg'⟩:=hC.zero t gs hz
   refine ⟨hg,hd,(fun c hc=>by rw [hop] at hc; cases hc),w.alloc (.cells z.cells t),z.cells.toList,?_,World.grownBy_alloc w _ none,?_,by simpa using zbC w z.cells.toList t,hg'⟩
   ·simp only [execOp,hop]
    have h1:(newVar t z).run P w = .ok ⟨w.heap.size,0,none⟩ (w.alloc (.cells z.cells t)):=by simp [newVar,newRow]
    simp only [Instr.alloc,Sem.run_bind,zeroValue,typeInfo,run_program,Result.andThen_ok,hi,hiz,Sem.run_pure,h1]
   ·obtain ⟨_,_,_,hb,_⟩:=zbC w z.cells.toList t
    have:=(Array.getElem?_eq_some_iff.1 hb).1
    simpa using this
  ·cases hh
 ·cases hh
theorem allSame_all {R:Type} {G:R→Prop} {sm:Option R→Option R→Option R} (hsm:∀ {a b:Option R} {r:R},sm a b = some r→G r→(∃ ra,a = some ra∧G ra)∧(∃ rb,b = some rb∧G rb)) {f:Nat→Option R}:∀ {l:List Nat} {x:Option R} {r:R},zft sm f x l = some r→G r→(∃ ra,x = some ra∧G ra)∧∀ i∈l,∃ ra,f i = some ra∧G ra
 | [],_,r,h,hg=>⟨⟨r,h,hg⟩,fun _ hi=>nomatch hi⟩
 | i :: l,x,r,h,hg=>by
  obtain ⟨h1,rb,h2,h3⟩:=hsm h hg
  obtain ⟨h4,h5⟩:=allSame_all hsm h2 h3
  refine ⟨h1,fun j hj=>?_⟩
  rcases List.mem_cons.1 hj with rfl | hj
  ·exact h4
  ·exact h5 j hj
theorem ziE (hE : EnvOK P E) {F : Fence} (hW : Wide F) (hro : F.round = none) {N : Nat} {inl : Nat → Callee → List AV → St → (AV → St → Option R) → (Pan → St → Option R) → Option R} (hI : InlOK P E inl) {base : Nat} {ops : Array Oper} (hsel : Region.noSelect ops = true) (hD : ∀ i x, ops[i]? = some x → ∀ j ∈ V.deps x, j < i) {ds : List Deferred} {n : Nat} (hall : ops.toList.all (dstOk n) = true)
    {T' : List (Array Value)} {Q : Exit → Act → World → Prop} {K : Ex → St → Option R} {G : R → Prop} {sm : Option R → Option R → Option R} (hsm : ∀ {a b : Option R} {r : R}, sm a b = some r → G r → (∃ ra, a = some ra ∧ G ra) ∧ (∃ rb, b = some rb ∧ G rb))
    {br : Option (Array Bool → List Nat → Hid → St → Option R)}
    (hbr : ∀ go, br = some go → ∀ (listed : Array Bool) (held : List Nat) (hid : Hid) (x : Option Nat) (hds : List Hd) {r : R} {g : Gh} {s : St} {tm : Array Value} {w : World}, go listed held hid s = some r → G r → StR g s tm (dfs ds ++ T') w → HidOK x g tm w hid → zay E.C g.fz → tm.size = n →
      (∀ r s' tm' g' w', K .normal s' = some r → G r → StR g' s' tm' (dfs ds ++ T') w' → TrX x g w g' w' → tm'.size = n → Q .normal ⟨tm', ds⟩ w') →
      (∀ r p s' tm' g' w', K (.pan p) s' = some r → G r → StR g' s' tm' (dfs ds ++ T') w' → TrX x g w g' w' → tm'.size = n → Q (.panic [Pan.entry p]) ⟨tm', ds⟩ w') →
      listed.size = ops.size → Closed ops listed → Heads P g ops ds tm listed held hds → (∀ h ∈ hds, h.live listed → h.S w) →
      ∀ m, left listed ≤ m → zcb F N P ops (QOff (zbt ops) Q) hds m listed ⟨tm, ds⟩ w) :
    ∀ (fuel : Nat) (listed : Array Bool) (held : List Nat) (hid : Hid) (x : Option Nat) (hds : List Hd) {r : R} {g : Gh} {s : St} {tm : Array Value} {w : World}, zdN E inl sm br base ops fuel listed held hid s K = some r → G r → StR g s tm (dfs ds ++ T') w → HidOK x g tm w hid → zay E.C g.fz → tm.size = n →
      (∀ r s' tm' g' w', K .normal s' = some r → G r → StR g' s' tm' (dfs ds ++ T') w' → TrX x g w g' w' → tm'.size = n → Q .normal ⟨tm', ds⟩ w') →
      (∀ r p s' tm' g' w', K (.pan p) s' = some r → G r → StR g' s' tm' (dfs ds ++ T') w' → TrX x g w g' w' → tm'.size = n → Q (.panic [Pan.entry p]) ⟨tm', ds⟩ w') →
      listed.size = ops.size → Closed ops listed → Heads P g ops ds tm listed held hds → (∀ h ∈ hds, h.live listed → h.S w) →
      ∀ m, left listed ≤ m → zcb F N P ops (QOff (zbt ops) Q) hds m listed ⟨tm, ds⟩ w := by
  intro fuel
  induction fuel with
  | zero => intro listed held hid x hds r g s tm w h; cases h
  | succ fuel ih =>
    intro listed held hid x hds r g s tm w h hgr hs hid_ok hG hn hQ hP hsz hcl hH hL m hm
    simp only [zdN] at h
    split at h
    · rename_i hr
      have hq : QOff (zbt ops) Q .normal ⟨tm, ds⟩ w := by
        show Q .normal _ _
        cases hid with
        | none => exact hQ r s tm g w h hgr hs ((Tr.refl _ _).x _) hn
        | some hd =>
          simp only at h
          split at h
          · rename_i s1 hu
            obtain ⟨g1, k1, k2, k3⟩ := ziD hs hid_ok hu
            exact hQ r s1 tm g1 w h hgr k1 (TrX.showRefl k2 k3) hn
          · cases h
      cases m with
      | zero => exact ⟨hr, hq⟩
      | succ m => exact ⟨fun _ => hq, fun i hi => (by rw [hr] at hi; cases hi)⟩
    · rename_i i l hr
      cases hdue : znJ ops hid (i :: l) with
      | true =>
        rw [hdue, cond_true] at h
        cases hid with
        | none => cases h
        | some hd =>
          simp only at h
          split at h
          · rename_i s1 hu
            obtain ⟨g1, k1, k2, k3⟩ := ziD hs hid_ok hu
            exact ih listed held none none hds h hgr k1 rfl (by rw [k2]; exact hG) hn (fun r s' tm' g' w' q1 q0 q2 q3 q4 => hQ r s' tm' g' w' q1 q0 q2 (TrX.show k2 k3 q3) q4) (fun r p s' tm' g' w' q1 q0 q2 q3 q4 => hP r p s' tm' g' w' q1 q0 q2 (TrX.show k2 k3 q3) q4) hsz hcl (hH.mono (fun b o v e => by rw [k2]; exact e)) hL m hm
          · cases h
      | false =>
      rw [hdue, cond_false] at h
      split at h
      · rename_i j hj
        have hj1 := List.find?_some hj
        have hj2 := List.mem_of_find?_eq_some hj
        simp only [sA] at hj1
        split at h
        · rename_i o hoj
          rw [hoj] at hj1
          split at h
          · rename_i c v hx
            cases hc : held.all (keeps ops o.dst) && (!zdh o || v.scal) && (zdi hid o.dst && c) with
            | false => rw [hc] at h; cases h
            | true =>
              rw [hc, cond_true] at h
              rw [sA, sA, sA] at hc
              obtain ⟨⟨hkp, hpv⟩, hclr, hc1⟩ := hc
              subst hc1
              obtain ⟨z, blk, off, cs, hfz, hz1, hz2, hgd, hab, hsoft⟩ := zoF hE.cfg hs hG hj1.2 hpv hx ds
              have hok : dstOk n o = true := List.all_eq_true.1 hall o (by simpa using Array.mem_of_getElem? hoj)
              have hrd : j ∈ Region.ready .any ops listed := by rw [hr]; exact hj2
              have hset := zdI (mem_ready.1 hrd).1
              obtain ⟨m, rfl⟩ : ∃ k, m = k + 1 := ⟨m - 1, by omega⟩
              refine ze6 (h0 := ⟨fun _ => False, fun w1 => zaE w1 blk off cs⟩) hro hoj (Region.noSelect_spec hsel) (zmn hoj hsoft z) (fun x hx hd => ?_) (fun h => h) (fun _ _ _ _ k hk => hk.elim) m listed _ w hsz hcl (Region.free_spec hoj hj1.1) hrd ⟨by simp [Region.wanted, hgd], hz1, fun w1 => hab w1 _⟩ (hfz.cells hs.fz) hL ?_
              · obtain ⟨ok, k1, k2⟩ := (hH x hx).1 j hd
                rw [hoj] at k1
                cases k1
                rw [hsoft] at k2
                cases k2
              · have hput := hs.put (fun d hd => by rw [hn]; exact zcj hok d hd) hz2 ds
                rw [put_defers]
                refine ih _ held hid x _ h hgr hput (hid_ok.put hclr z ds) hG (by rw [zbM]; exact hn) hQ hP (by simp [hsz]) (hcl.set hrd) ?_ ?_ m (by omega)
                · intro x hx
                  rcases List.mem_cons.1 hx with rfl | hx
                  · exact ⟨fun _ hk => hk.elim, .inr (.inl ⟨blk, off, cs, hfz, fun _ h => h⟩)⟩
                  · exact hH.put j hkp z (fun p hp => .inl hp) x hx
                · intro x hx hl
                  rcases List.mem_cons.1 hx with rfl | hx
                  · exact hfz.cells hs.fz
                  · exact hL x hx (Hd.live_set hl)
          · cases h
        · cases h
      · have key : ∀ (many : Bool) (go : Array Bool → List Nat → Hid → St → Option R), (∀ (listed : Array Bool) (held : List Nat) (hid : Hid) (x : Option Nat) (hds : List Hd) {r : R} {g : Gh} {s : St} {tm : Array Value} {w : World}, go listed held hid s = some r → G r → StR g s tm (dfs ds ++ T') w → HidOK x g tm w hid → zay E.C g.fz → tm.size = n →
            (∀ r s' tm' g' w', K .normal s' = some r → G r → StR g' s' tm' (dfs ds ++ T') w' → TrX x g w g' w' → tm'.size = n → Q .normal ⟨tm', ds⟩ w') →
            (∀ r p s' tm' g' w', K (.pan p) s' = some r → G r → StR g' s' tm' (dfs ds ++ T') w' → TrX x g w g' w' → tm'.size = n → Q (.panic [Pan.entry p]) ⟨tm', ds⟩ w') →
            listed.size = ops.size → Closed ops listed → Heads P g ops ds tm listed held hds → (∀ h ∈ hds, h.live listed → h.S w) →
            ∀ m, left listed ≤ m → zcb F N P ops (QOff (zbt ops) Q) hds m listed ⟨tm, ds⟩ w) → (∀ i' ∈ i :: l, ∃ ra, zcB E inl base ops listed held hid many s K go i' = some ra ∧ G ra) → zcb F N P ops (QOff (zbt ops) Q) hds m listed ⟨tm, ds⟩ w := by
          intro many go hgo hk
          have hset := zdI (mem_ready.1 (show i ∈ Region.ready .any ops listed by rw [hr]; simp)).1
          obtain ⟨m, rfl⟩ : ∃ k, m = k + 1 := ⟨m - 1, by omega⟩
          refine ⟨fun he => (by rw [hr] at he; cases he), ?_⟩
          intro i' hi'
          have hrd : i' ∈ Region.ready .any ops listed := hi'
          obtain ⟨ra, hq, hgra⟩ := hk i' (by rw [← hr]; exact hi')
          have hset := zdI (mem_ready.1 hrd).1
          unfold zcB at hq
          split at hq
          · rename_i o ho
            cases hnd : zbO o && held.all (keeps ops o.dst) && zdi hid o.dst with
            | false => rw [hnd] at hq; cases hq
            | true =>
              rw [hnd, cond_true] at hq
              simp only [sA] at hnd
              obtain ⟨hnd, hclr⟩ := hnd
              have hok : dstOk n o = true := List.all_eq_true.1 hall o (by simpa using Array.mem_of_getElem? ho)
              have hkeep : ∀ p ∈ held, p ∈ zb4 ops i' o held ∨ zet ops p i' := fun p hp => by
                unfold zb4
                cases hso : soft o with
                | true => exact .inl hp
                | false =>
                  rw [cond_false]
                  cases hah : ahead (masks ops.toList []) p i' with
                  | false => exact .inl (List.mem_filter.2 ⟨hp, by rw [hah]; rfl⟩)
                  | true => exact .inr ⟨o, ho, hso, hah⟩
              split at hq
              · -- hidden
                rename_i hd hho
                have hnone : hid = none ∧ zg7 E.C base o = some hd := by
                  unfold znI at hho
                  cases many with
                  | false => cases hho
                  | true =>
                    rw [cond_true] at hho
                    cases hid with
                    | none => exact ⟨rfl, hho⟩
                    | some _ => cases hho
                obtain ⟨rfl, hnow⟩ := hnone
                have hx0 : x = none := hid_ok
                subst hx0
                obtain ⟨e1, e2, e3, w', zs, e4, e5, e6, e7, e8⟩ := znu (P := P) hE.cfg (tm := tm) (w := w) hnow ds
                have hlt : hd.1 < tm.size := by rw [hn]; exact zcj hok _ e2
                have hs1 := hs.grow (w' := w') (fun b hb => e5.block b hb (by simp))
                have hput := hs1.put (dst := o.dst) (fun d hd' => by rw [hn]; exact zcj hok d hd') (v := .junk) (z := .pointer (some ⟨w.heap.size, 0, none⟩)) trivial ds
                obtain ⟨hq, hag⟩ := zeV hq
                · unfold wpOpIn
                  rw [ho]
                  simp only
                  rw [if_pos (by simp [Region.wanted, e1])]
                  refine za0 hW e3 ?_
                  rw [e4, Oper.uponIn_value]
                  have tw : Tr g w g w' := Tr.grow e5
                  have hH' : Heads P g ops ds (Act.put ⟨tm, ds⟩ o.dst (.pointer (some ⟨w.heap.size, 0, none⟩))).tmps (listed.setIfInBounds i' true) (zb4 ops i' o held) hds := hH.put i' hnd.2 _ hkeep
                  have hL' := zgS hE hput hG hH' hag
                  rw [put_defers]
                  refine ⟨hL', hgo _ _ (some hd) (some w.heap.size) _ hq hgra hput ⟨w.heap.size, zs, rfl, ?_, e6, e7, e8, fun e => ?_, fun o => hs.fz.noneAt (Nat.le_refl _) o⟩ hG (by rw [zbM]; exact hn) (fun r s2 tm2 g2 w2 q1 q0 q2 q3 q4 => hQ r s2 tm2 g2 w2 q1 q0 q2 (TrX.new tw (Nat.le_refl _) q3) q4) (fun r p s2 tm2 g2 w2 q1 q0 q2 q3 q4 => hP r p s2 tm2 g2 w2 q1 q0 q2 (TrX.new tw (Nat.le_refl _) q3) q4) (by simp [hsz]) (hcl.set hrd) hH' hL' m (by omega)⟩
                  · rw [e2]
                    show (tm.setIfInBounds hd.1 _).getD hd.1 undef = _
                    rw [Array.getD_eq_getD_getElem?, Array.getElem?_setIfInBounds_self_of_lt hlt]
                    rfl
                  · have := hs.bxs.lt e
                    omega
              · refine znY hE hW (hI.shift _) ho hok hnd.1 rfl hq hs hG hn (fun s' tm' g' w' a b c d e => ?_) (fun p s' tm' g' w' a b c d => ?_)
                · obtain ⟨z, rfl⟩ := e
                  obtain ⟨a, hag⟩ := zeV a
                  · have hH' : Heads P g' ops ds (Act.put ⟨tm, ds⟩ o.dst z).tmps (listed.setIfInBounds i' true) (zb4 ops i' o held) hds := by
                      exact (hH.mono c.fz).put i' hnd.2 z hkeep
                    have hL' := zgS hE b (hG.mono c.fz) hH' hag
                    exact ⟨hL', hgo _ _ hid x _ a hgra b ((hid_ok.tr c).put hclr z ds) (hG.mono c.fz) d (fun r s2 tm2 g2 w2 q1 q0 q2 q3 q4 => hQ r s2 tm2 g2 w2 q1 q0 q2 (c.transX q3) q4) (fun r p s2 tm2 g2 w2 q1 q0 q2 q3 q4 => hP r p s2 tm2 g2 w2 q1 q0 q2 (c.transX q3) q4) (by simp [hsz]) (hcl.set hrd) hH' hL' m (by omega)⟩
                · intro tm2 hoff
                  refine hP ra p _ tm2 g' w' a hgra ⟨fun t v e => ?_, b.stk, b.bxs, b.fz⟩ (c.x _) (by rw [hoff.1]; exact d)
                  rw [hoff.2 t (zdJ e).1]
                  exact b.env t v (zc7 e)
          · cases hq
        split at h
        · exact key false _ (fun listed held hid x hds _ _ _ _ _ => ih listed held hid x hds) (fun i' hi' => by rw [List.mem_singleton] at hi'; subst hi'; exact ⟨r, h, hgr⟩)
        · split at h
          · rename_i j hj
            have hj1 := List.find?_some hj
            have hj2 := List.mem_of_find?_eq_some hj
            simp only [sA] at hj1
            split at h
            · rename_i o hoj
              rw [hoj] at hj1
              split at h
              · rename_i c v d hx hd
                cases hc : (zdi hid o.dst && c) && (v.rigid || (E.sym && v.scal)) && held.all (keeps ops o.dst) && !(looks ops o).contains d with
                | false => rw [hc] at h; cases h
                | true =>
                  rw [hc, cond_true] at h
                  simp only [sA, Bool.not_eq_true'] at hc
                  obtain ⟨⟨⟨⟨hclr, hc1⟩, hrg⟩, hkp⟩, hlk⟩ := hc
                  subst hc1
                  have hin : isLoad o = true := (sA _ _ ▸ hj1.2).1
                  obtain ⟨z, hz1, hz2⟩ := zko hE.cfg hs hG hin hx ds
                  have hok : dstOk n o = true := List.all_eq_true.1 hall o (by simpa using Array.mem_of_getElem? hoj)
                  have hrd : j ∈ Region.ready .any ops listed := by rw [hr]; exact hj2
                  have hun := (mem_ready.1 hrd).1
                  have hset := zdI hun
                  obtain ⟨m, rfl⟩ : ∃ k, m = k + 1 := ⟨m - 1, by omega⟩
                  have hsoft : soft o = true := by simp [soft, hin]
                  have hdn : d < n := zcj hok d hd
                  refine ze6 (h0 := ⟨zet ops j, fun w1 => (execOp (Act.eval ⟨tm, ds⟩) o).run P w1 = .ok (.value z) w1⟩) hro hoj (Region.noSelect_spec hsel) (zmn hoj hsoft z) (fun x hx hd => ?_) ?_ (fun l' q1 q2 q3 k hk => zmm hD q1 q2 q3 k hk) m listed _ w hsz hcl (Region.free_spec hoj hj1.1) hrd ⟨by simp [Region.wanted, zgQ hin], fun w1 h1 => h1, fun w1 => zgP hin w1 _⟩ hz1 hL ?_
                  · obtain ⟨ok, k1, k2⟩ := (hH x hx).1 j hd
                    rw [hoj] at k1
                    cases k1
                    rw [hsoft] at k2
                    cases k2
                  · rintro ⟨ok, k1, k2, _⟩
                    rw [hoj] at k1
                    cases k1
                    rw [hsoft] at k2
                    cases k2
                  · have hput := hs.put (fun d hd => by rw [hn]; exact zcj hok d hd) hz2 ds
                    rw [put_defers]
                    refine ih _ (j :: held) hid x _ h hgr hput (hid_ok.put hclr z ds) hG (by rw [zbM]; exact hn) hQ hP (by simp [hsz]) (hcl.set hrd) ?_ ?_ m (by omega)
                    · intro x hx
                      rcases List.mem_cons.1 hx with rfl | hx
                      · refine ⟨fun k hk => ⟨hk.choose, hk.choose_spec.1, hk.choose_spec.2.1⟩, .inl ⟨j, List.mem_cons_self .., rfl, o, d, hoj, hin, hd, by rw [zbM, hn]; exact hdn, fun w1 => ?_⟩⟩
                        have e1 : execOp (Act.eval ⟨(Act.put ⟨tm, ds⟩ o.dst z).tmps, ds⟩) o = execOp (Act.eval ⟨tm, ds⟩) o := by
                          rw [← put_defers]
                          refine execOp_put (ops := ops) o (zkp hin) _ o.dst z (fun u hu => ?_)
                          rw [hd] at hu
                          cases hu
                          exact zdT hlk
                        have e2 : (Act.put ⟨tm, ds⟩ o.dst z).tmps.getD d undef = z := by
                          rw [hd]
                          show (tm.setIfInBounds d z).getD d undef = _
                          rw [Array.getD_eq_getD_getElem?, Array.getElem?_setIfInBounds_self_of_lt (by rw [hn]; exact hdn)]
                          rfl
                        rw [e1, e2]
                      · exact hH.put j hkp z (fun p hp => .inl (List.mem_cons_of_mem _ hp)) x hx
                    · intro x hx hl
                      rcases List.mem_cons.1 hx with rfl | hx
                      · exact hz1
                      · exact hL x hx (Hd.live_set hl)
              · cases h
            · cases h
          · have fin : ∀ {many : Bool} {go : Array Bool → List Nat → Hid → St → Option R}, zft sm (zcB E inl base ops listed held hid many s K go) (zcB E inl base ops listed held hid many s K go i) l = some r → ∀ i' ∈ i :: l, ∃ ra, zcB E inl base ops listed held hid many s K go i' = some ra ∧ G ra := by
              intro many go h i' hi'
              obtain ⟨k1, k2⟩ := allSame_all hsm h hgr
              rcases List.mem_cons.1 hi' with rfl | hi'
              · exact k1
              · exact k2 i' hi'
            split at h
            · exact key true _ (fun listed held hid x hds _ _ _ _ _ => ih listed held hid x hds) (fin h)
            · rename_i go
              exact key false go (hbr go rfl) (fin h)
end
end Go.V
namespace Go.V
variable [Codes]
section
variable {P:Program} {E:Env0}
theorem VsR.grow' {g g':Gh} (hx:ExtBut none g g'):∀ {l:List AV} {cs:List Value},VsR g l cs→VsR g' l cs
 | [],[],h=>h
 | [],_ :: _,h=>h.elim
 | _ :: _,[],h=>h.elim
 | _ :: _,_ :: _,⟨h1,h2⟩=>⟨h1.grow hx,h2.grow' hx⟩
structure Mk (p:Nat→Prop) (g:Gh) (w:World) (ds:List Deferred):Prop where
 mem:∀ d∈ds,(∃ r,d = { target:=.collected r,args:=#[] }∧p r∧w.heap[r]? = some (.deferred (some []))∧¬ owned g r) ∨ ∃ f cap args,d = { target:=.fn (.func f) cap,args:=args }
 apart:ds.Pairwise (fun a b=>∀ r,a.target = .collected r→b.target = .collected r→False)
theorem Mk.nil {p:Nat→Prop} {g:Gh} {w:World}:Mk p g w []:=⟨(fun _ h=>nomatch h),.nil⟩
theorem Mk.tr {p:Nat→Prop} {g g':Gh} {w w':World} {ds:List Deferred} (h:Mk p g w ds) (t:Tr g w g' w'):Mk p g' w' ds:=by
 refine ⟨fun d hd=>?_,h.apart⟩
 rcases h.mem d hd with ⟨r,e1,e2,e3,e4⟩ | h
 ·have hlt:=(Array.getElem?_eq_some_iff.1 e3).1
  refine .inl ⟨r,e1,e2,(t.block r hlt e4).trans e3,fun ho=>?_⟩
  rcases t.own r ho with h | h
  ·exact e4 h
  ·omega
 ·exact .inr h
theorem Mk.cons {p:Nat→Prop} {g:Gh} {w:World} {ds:List Deferred} (h:Mk p g w ds) (f:FuncId) (cap args:Array Value):Mk p g w ({ target:=.fn (.func f) cap,args:=args } :: ds):=by
 refine ⟨fun d hd=>?_,List.pairwise_cons.2 ⟨(fun _ _ _ e _=>nomatch e),h.apart⟩⟩
 rcases List.mem_cons.1 hd with rfl | hd
 ·exact .inr ⟨f,cap,args,rfl⟩
 ·exact h.mem d hd
theorem Mk.go {p:Nat→Prop} {g:Gh} {w:World} {ds ds':List Deferred} (h:Mk p g w ds) (k:DsGo ds ds'):Mk p g w ds':=by
 induction k with
 | refl=>exact h
 | cons f cap args _ ih=>exact ih (h.cons f cap args)
theorem Mk.none {g:Gh} {w:World} {ds:List Deferred} (h:Mk (fun _=>False) g w ds) (hd:dfs ds = []):ds = []:=by
 cases ds with
 | nil=>rfl
 | cons d ds =>
  rcases h.mem d (by simp) with ⟨r,e1,e2,_⟩ | ⟨f,cap,args,rfl⟩
  ·exact e2.elim
  ·simp [dfs,zjv] at hd
theorem StkR.length {g:Gh}:∀ {l:List Env} {m:List (Array Value)},StkR g l m→l.length = m.length
 | [],[],_=>rfl
 | _ :: _,_ :: _,h=>by simp [h.2.length]
 | [],_ :: _,h=>h.elim
 | _ :: _,[],h=>h.elim
theorem StR.putOther {g:Gh} {s:St} {tm:Array Value} {tms:List (Array Value)} {w:World} (h:StR g s tm tms w) {r:Nat} {x:Option (List Deferred)} (hr:w.heap[r]? = some (.deferred x)) (hno:¬ owned g r) (o:Obj) :
  StR g s tm tms (w.putObj r o):=by
 have hw:∀ b,b ≠ r→(w.putObj r o).heap[b]? = w.heap[b]?:=fun b hb=>World.putObj_heap_other hb
 refine ⟨h.env,h.stk,⟨fun k b e=>?_,h.bxs.dom,h.bxs.sep⟩,fun b o' v e=>?_⟩
 ·obtain ⟨gb,h1,h2⟩:=h.bxs.box k b e
  exact ⟨gb,h1,h2.ext (ExtBut.refl g) (fun blk e1 e2=>hw blk (fun e=>hno ⟨k,gb,h1,by rw [← e]; exact e1,e2⟩)) (fun _ _ _ _ h=>h) (zaK _)⟩
 ·have h1:=h.fz b o' v e
  have hb:b ≠ r:=by
   intro e
   subst e
   cases hv:isTup v with
   | false=>have h2:=h1.1 hv; simp [World.cell?,hr] at h2
   | true=>obtain ⟨es,ck,_,h2⟩:=h1.2 hv; rw [hr] at h2; cases h2
  exact h1.same (hw b hb)
theorem Tr.putOther {g0 g:Gh} {w0 w:World} (t:Tr g0 w0 g w) {r:Nat} (hr:w0.heap.size≤r) (o:Obj):Tr g0 w0 g (w.putObj r o) :=
 ⟨t.os,t.tape,t.output,by have:=t.size; simp only [World.putObj,Array.size_setIfInBounds]; exact this,t.fz,t.fzNew,t.own,fun b hb ho=>(World.putObj_heap_other (by omega)).trans (t.block b hb ho)⟩
theorem zmo {g:Gh}:∀ {ps:List Nat} {args:List AV} {vals:List Value} {env:Env} {tm:Array Value},VsR g args vals→EnvR g env tm→ps.length = args.length→(∀ p∈ps,p < tm.size) →
  EnvR g (putL ps args env) ((ps.zip vals).foldl (fun t x=>t.setIfInBounds x.1 x.2) tm)∧((ps.zip vals).foldl (fun t x=>t.setIfInBounds x.1 x.2) tm).size = tm.size
 | [],[],vals,env,tm,_,he,_,_=>⟨by simpa [putL] using he,by simp⟩
 | [],_ :: _,_,_,_,_,_,h,_=>by simp at h
 | _ :: _,[],_,_,_,_,_,h,_=>by simp at h
 | p :: ps,v :: args,[],_,_,h,_,_,_=>h.elim
 | p :: ps,v :: args,c :: vals,env,tm,⟨h1,h2⟩,he,hl,hp=>by
  simp only [putL,List.zip_cons_cons,List.foldl_cons]
  have he':EnvR g ((p,v) :: env) (tm.setIfInBounds p c):=by
   intro n u e
   by_cases hn:p = n
   ·subst hn
    rw [zad] at e
    cases e
    have:(tm.setIfInBounds p c).getD p undef = c:=by
     rw [Array.getD_eq_getD_getElem?,Array.getElem?_setIfInBounds_self_of_lt (hp p (by simp))]; rfl
    rw [this]
    exact h1
   ·rw [zab _ _ hn] at e
    have:(tm.setIfInBounds p c).getD n undef = tm.getD n undef:=by
     rw [Array.getD_eq_getD_getElem?,Array.getD_eq_getD_getElem?,Array.getElem?_setIfInBounds_ne hn]
    rw [this]
    exact he n u e
  have:=zmo (env:=(p,v) :: env) (tm:=tm.setIfInBounds p c) h2 he' (by simpa using hl) (fun q hq=>by rw [Array.size_setIfInBounds]; exact hp q (by simp [hq]))
  exact ⟨this.1,by rw [this.2,Array.size_setIfInBounds]⟩
theorem zmp (ps:List Nat) (vals:Array Value) (tm:Array Value) :
  (ps.toArray.zip vals).foldl (fun t (x:Nat × Value)=>t.setIfInBounds x.1 x.2) tm = (ps.zip vals.toList).foldl (fun t x=>t.setIfInBounds x.1 x.2) tm:=by
 rw [← Array.foldl_toList,Array.toList_zip]
theorem zk4 {nt:Nat}:∀ {c:Code} {x:Nat × LCode},x∈zal nt c→x.2.n = nt:=by
 intro c
 induction c with
 | seq a b iha ihb=>intro x h; simp only [zal,List.mem_append] at h; exact h.elim iha ihb
 | cond q a b iha ihb=>intro x h; simp only [zal,List.mem_append] at h; exact h.elim iha ihb
 | block id c ih=>intro x h; exact ih h
 | scope c ih=>intro x h; exact ih h
 | loop c ih=>intro x h; exact ih h
 | rangeFunc q ps a b iha ihb=>intro x h; simp only [zal,List.mem_singleton] at h; subst h; rfl
 | _=>intro x h; simp [zal] at h
theorem zeu {nt:Nat}:∀ {c:Code} {x:Nat × LCode},za6 nt c = true→x∈zal nt c→(∀ p∈x.2.ps,p < nt)∧za6 nt x.2.assign = true∧za6 nt x.2.body = true:=by
 intro c
 induction c with
 | seq a b iha ihb=>intro x hd h; simp only [zal,List.mem_append] at h; simp only [za6,sA] at hd; exact h.elim (iha hd.1) (ihb hd.2)
 | cond q a b iha ihb=>intro x hd h; simp only [zal,List.mem_append] at h; simp only [za6,sA] at hd; exact h.elim (iha hd.1) (ihb hd.2)
 | block id c ih=>intro x hd h; exact ih hd h
 | scope c ih=>intro x hd h; exact ih hd h
 | loop c ih=>intro x hd h; exact ih hd h
 | rangeFunc q ps a b iha ihb =>
  intro x hd h
  simp only [zal,List.mem_singleton] at h
  subst h
  simp only [za6,sA,List.all_eq_true] at hd
  exact ⟨fun p hp=>Nat.le_of_ble_eq_true (hd.1 p hp),hd.2.1,hd.2.2⟩
 | _=>intro x _ h; simp [zal] at h
theorem zgl {tot:List Nat} {nt:Nat}:∀ {c:Code} {x:Nat × LCode},zaW tot c = true→x∈zal nt c→zaW tot x.2.assign = true∧zaW tot x.2.body = true:=by
 intro c
 induction c with
 | seq a b iha ihb=>intro x hd h; simp only [zal,List.mem_append] at h; simp only [zaW,sA] at hd; exact h.elim (iha hd.1) (ihb hd.2)
 | cond q a b iha ihb=>intro x hd h; simp only [zal,List.mem_append] at h; simp only [zaW,sA] at hd; exact h.elim (iha hd.1) (ihb hd.2)
 | block id c ih=>intro x hd h; exact ih hd h
 | scope c ih=>intro x hd h; exact ih hd h
 | loop c ih=>intro x hd h; exact ih hd h
 | rangeFunc q ps a b iha ihb =>
  intro x hd h
  simp only [zal,List.mem_singleton] at h
  subst h
  simp only [zaW,sA] at hd
  exact hd
 | _=>intro x _ h; simp [zal] at h
theorem zgm {nt:Nat}:∀ {c:Code} {x:Nat × LCode},x∈zal nt c→(∀ b∈zaz x.2.assign,b∈zaz c)∧(∀ b∈zaz x.2.body,b∈zaz c):=by
 intro c
 induction c with
 | seq a b iha ihb =>
  intro x h
  simp only [zal,List.mem_append] at h
  simp only [zaz,List.mem_append]
  rcases h with h | h
  ·exact ⟨fun b hb=>.inl ((iha h).1 b hb),fun b hb=>.inl ((iha h).2 b hb)⟩
  ·exact ⟨fun b hb=>.inr ((ihb h).1 b hb),fun b hb=>.inr ((ihb h).2 b hb)⟩
 | cond q a b iha ihb =>
  intro x h
  simp only [zal,List.mem_append] at h
  simp only [zaz,List.mem_append]
  rcases h with h | h
  ·exact ⟨fun b hb=>.inl ((iha h).1 b hb),fun b hb=>.inl ((iha h).2 b hb)⟩
  ·exact ⟨fun b hb=>.inr ((ihb h).1 b hb),fun b hb=>.inr ((ihb h).2 b hb)⟩
 | block id c ih=>intro x h; exact ih h
 | scope c ih=>intro x h; exact ih h
 | loop c ih=>intro x h; simp only [zaz,List.mem_cons]; exact ⟨fun b hb=>.inr ((ih h).1 b hb),fun b hb=>.inr ((ih h).2 b hb)⟩
 | rangeFunc q ps a b iha ihb =>
  intro x h
  simp only [zal,List.mem_singleton] at h
  subst h
  simp only [zaz,List.mem_append]
  exact ⟨fun b hb=>.inl hb,fun b hb=>.inr hb⟩
 | _=>intro x h; simp [zal] at h
theorem zkq {α:Type}:∀ {l:List (Nat × α)} {k:Nat} {v:α},find l k = some v→(k,v)∈l
 | [],_,_,h=>nomatch h
 | (j,u) :: l,k,v,h=>by
  by_cases hj:j = k
  ·subst hj; rw [zad] at h; cases h; simp
  ·rw [zab _ _ hj] at h; simp [zkq h]
theorem zkr {α:Type}:∀ {l:List (Nat × α)} {k:Nat} {v:α},idsOk (l.map (·.1)) = true→(k,v)∈l→find l k = some v
 | [],_,_,_,h=>nomatch h
 | (j,u) :: l,k,v,hi,h=>by
  simp only [List.map_cons,idsOk,sA,Bool.not_eq_true'] at hi
  rcases List.mem_cons.1 h with e | h
  ·cases e; rw [zad]
  ·have hj:j ≠ k:=by
    intro e
    subst e
    have:(l.map (·.1)).contains j = true:=List.contains_iff_mem.2 (List.mem_map.2 ⟨(j,v),h,rfl⟩)
    rw [this] at hi
    cases hi.1
   rw [zab _ _ hj]
   exact zkr hi.2 h
theorem zfp {env:Env} {b:Nat} (h:isYld env b = true):find env 0 = some (.yld b):=by
 unfold isYld at h
 split at h
 ·rename_i c hc; rw [hc,sB h]
 ·cases h
theorem zjC {g:Gh} {b l:Nat} {c:Value} (h:VR g (.yld b) c) (he:c = .func (.yield l) #[] #[]):∃ gb,g.bx b = some gb∧gb.isRow = false∧gb.blk = some l:=by
 obtain ⟨gb,l',e1,e2,e3,e4⟩:=h
 rw [he] at e4
 simp only [sC,and_true,Value.func.injEq,Fn.yield.injEq] at e4
 subst e4
 exact ⟨gb,e1,e2,e3⟩
end
end Go.V
