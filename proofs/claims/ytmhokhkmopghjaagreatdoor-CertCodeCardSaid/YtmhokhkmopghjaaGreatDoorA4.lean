/- Part of the proof. -/
import Derived.CallsIn
import Derived.OrdersIn
import Derived.RangeFuncCalls
import Derived.RangeFuncLeaves
import Derived.Test.YtmhokhkmopghjaaGreatDoorA3
set_option linter.all false
set_option linter.unusedVariables false
set_option linter.unusedSectionVars false
set_option linter.unusedSimpArgs false
namespace Go.V
variable [Codes]
section
variable {C:Cfg} {P:Program}
def zay (C:Cfg) (fz:Nat→Nat→Option Value):Prop:=∀ n v,C.glob n = some v→∃ gs cs,v = .eptr gs∧PsR fz gs cs∧Fz fz n 0 cs
theorem zay.mono {fz fz':Nat→Nat→Option Value} (h:zay C fz) (hf:∀ b o v,fz b o = some v→fz' b o = some v):zay C fz':=fun n v e=>by
 obtain ⟨gs,cs,h1,h2,h3⟩:=h n v e
 exact ⟨gs,cs,h1,h2.mono hf,h3.mono hf⟩
theorem zkX {g:Gh} {c:Value} {v:AV} (h:ziS c = some v):VR g v c:=by
 unfold ziS at h
 split at h <;> first | (cases h; done) | (simp only [sI] at h; subst h; exact rfl)
theorem ev_ok {g:Gh} {s:St} {tm:Array Value} {tms:List (Array Value)} {w:World} (hs:StR g s tm tms w) (hG:zay C g.fz) {x:Operand} {v:AV} (h:ev C s.env x = some v) (d:List Deferred) :
  VR g v (Act.eval ⟨tm,d⟩ x):=by
 cases x with
 | tmp t=>exact hs.env t v h
 | const c=>exact zkX h
 | global n =>
  obtain ⟨gs,cs,rfl,h2,h3⟩:=hG n v h
  exact ⟨n,0,cs,rfl,h2,h3⟩
 | func f =>
  simp only [ev,sI] at h
  subst h
  exact ⟨#[],rfl,trivial⟩
theorem zdS {g:Gh} {s:St} {tm:Array Value} {tms:List (Array Value)} {w:World} (hs:StR g s tm tms w) (hG:zay C g.fz) (d:List Deferred):∀ {l:List Operand} {vs:List AV},evL C s.env l = some vs→VsR g vs (l.map (Act.eval ⟨tm,d⟩))
 | [],vs,h=>by
  simp only [evL,sI] at h
  subst h
  exact trivial
 | x :: l,vs,h=>by
  simp only [evL] at h
  split at h
  ·rename_i v hv
   rw [Option.map_eq_some_iff] at h
   obtain ⟨r,hr,rfl⟩:=h
   exact ⟨ev_ok hs hG hv d,zdS hs hG d hr⟩
  ·cases h
theorem zma {g:Gh} {s:St} {tm:Array Value} {tms:List (Array Value)} {w:World} (hs:StR g s tm tms w) (hG:zay C g.fz) (d:List Deferred):∀ {l:List (Nat × Operand)} {vs:List (Nat × AV)},evP C s.env l = some vs→zfM g vs (l.map fun (i,x)=>(i,Act.eval ⟨tm,d⟩ x))
 | [],vs,h=>by
  simp only [evP,sI] at h
  subst h
  exact trivial
 | (i,x) :: l,vs,h=>by
  simp only [evP] at h
  split at h
  ·rename_i v hv
   rw [Option.map_eq_some_iff] at h
   obtain ⟨r,hr,rfl⟩:=h
   exact ⟨rfl,ev_ok hs hG hv d,zma hs hG d hr⟩
  ·cases h
theorem zjt {g:Gh} {s:St} {tm:Array Value} {tms:List (Array Value)} {w:World} (hs:StR g s tm tms w) (hG:zay C g.fz) (d:List Deferred) {x:Option Operand} {i:Option Int} (h:idxO C s.env x = some i):LoR i (x.map (Act.eval ⟨tm,d⟩)):=by
 unfold idxO at h
 split at h
 ·simp only [sI] at h
  subst h
  exact trivial
 ·split at h
  ·rename_i v hv
   split at h
   ·rename_i i' hi
    simp only [sI] at h
    subst h
    obtain ⟨k,hk⟩:=zid hi (ev_ok hs hG hv d)
    exact ⟨k,hk⟩
   ·cases h
  ·cases h
theorem zio {g:Gh}:∀ {l:List AV} {vs:List Value},zjN l = true→VsR g l vs→CapsR g l vs
 | [],[],_,_=>trivial
 | [],_ :: _,_,h=>h.elim
 | _ :: _,[],_,h=>h.elim
 | v :: l,c :: vs,h,⟨h1,h2⟩=>by
  cases v <;> first | (simp only [zjN,sF] at h; done) | skip
  case ptr b off p =>
   match off,p,h,h1 with
   | 0,[],h,h1 =>
    obtain ⟨gb,blk,e1,e2,e3,_,e4⟩:=h1
    simp only [sC,and_true] at e4
    exact ⟨⟨gb,blk,e1,e2,e3,by rw [e4]; rfl⟩,zio h h2⟩
theorem zdF {g:Gh}:∀ {l:List AV} {vs:List Value},zeE l = true→VsR g l vs→CapsR g l vs
 | [],[],_,_=>trivial
 | [],_ :: _,_,h=>h.elim
 | _ :: _,[],_,h=>h.elim
 | v :: l,c :: vs,h,⟨h1,h2⟩=>by
  cases v <;> first | (simp only [zeE,sF] at h; done) | skip
  case ptr b off p =>
   match off,p,h,h1 with
   | 0,[],h,h1 =>
    obtain ⟨gb,blk,e1,e2,e3,_,e4⟩:=h1
    simp only [sC,and_true] at e4
    exact ⟨⟨gb,blk,e1,e2,e3,by rw [e4]; rfl⟩,zdF h h2⟩
  case mp b =>
   obtain ⟨gb,r,e1,e2,e3,e4⟩:=h1
   simp only [sC,and_true] at e4
   exact ⟨⟨gb,r,e1,e2,e3,e4⟩,zdF h h2⟩
  case agg gs =>
   match gs,h,h1 with
   | [],h,h1 =>
    obtain ⟨arr,e1,e2⟩:=h1
    have e2':arr.toList = []:=e2
    have:arr = #[]:=by apply Array.toList_inj.1; rw [e2']
    subst this
    exact ⟨e1,zdF h h2⟩
def NextR (g:Gh) (v:AV) (n:Next):Prop:=(∃ z,n = .value z∧VR g v z) ∨ (n = .skip∧VR g v undef)
def Does (P:Program) (g:Gh) (s:St) (tm:Array Value) (tms:List (Array Value)) (w:World) (v:AV) (x:Sem Next):Prop :=
 ∃ n w' g',x.run P w = .ok n w'∧NextR g' v n∧StR g' s tm tms w'∧Tr g w g' w'
theorem Does.val {g g':Gh} {s':St} {tm:Array Value} {tms:List (Array Value)} {w w':World} {v:AV} {x:Sem Value} {z:Value} (h:x.run P w = .ok z w') (hv:VR g' v z) (hs:StR g' s' tm tms w') (ht:Tr g w g' w') :
  Does P g s' tm tms w v (do pure (.value (← x))):=by
 refine ⟨.value z,w',g',?_,.inl ⟨z,rfl,hv⟩,hs,ht⟩
 rw [Sem.run_bind,h]
 rfl
theorem Does.val0 {g:Gh} {s:St} {tm:Array Value} {tms:List (Array Value)} {w:World} {v:AV} {x:Sem Value} {z:Value} (h:x.run P w = .ok z w) (hv:VR g v z) (hs:StR g s tm tms w) :
  Does P g s tm tms w v (do pure (.value (← x))):=Does.val h hv hs (Tr.refl _ _)
theorem zbw {bx:Bxs} {k:Nat} {r:R3} {c:Bool} {v:AV} {e:Eff} (h:zcn bx k r = some (c,v,e)):find bx k = none∧r = some (c,v,e):=by
 unfold zcn at h
 split at h
 ·cases h
 ·rename_i hk; exact ⟨hk,h⟩
theorem za3 (ρ:Operand→Value) (b:Builtin) (args:Array Operand) (ts:Array TypeId) (ty:TypeId) :
  resolve ρ { callee:=.builtin b,args:=args,argTypes:=ts } ty = pure { target:=.builtin b ts ty (args.map fun | .const _=>true | _=>false),args:=args.map ρ }:=rfl
theorem zbL (hC:CfgOK C P) {g:Gh} {s:St} {tm:Array Value} {tms:List (Array Value)} {w:World} (hs:StR g s tm tms w) (hG:zay C g.fz) {base:Nat} {o:Oper} {v:AV} {e:Eff} (h:execA C base o s = some (true,v,e)) (d:List Deferred) :
  Does P g (e.apply s) tm tms w v (execOp (Act.eval ⟨tm,d⟩) o):=by
 unfold execA at h
 simp only at h
 split at h
 ·-- move
  rename_i x hop
  split at h
  ·rename_i v' hv
   simp only [ok,sI,sM,true_and] at h
   obtain ⟨rfl,rfl⟩:=h
   simp only [execOp,hop]
   exact ⟨_,w,g,rfl,.inl ⟨_,rfl,ev_ok hs hG hv d⟩,hs,Tr.refl _ _⟩
  ·cases h
 ·rename_i x hop
  split at h
  ·rename_i v' hv
   simp only [ok,sI,sM,true_and] at h
   obtain ⟨rfl,rfl⟩:=h
   simp only [execOp,hop]
   exact ⟨_,w,g,rfl,.inl ⟨_,rfl,ev_ok hs hG hv d⟩,hs,Tr.refl _ _⟩
  ·cases h
 ·-- alloc
  rename_i t hop
  split at h
  ·rename_i gs hz
   obtain ⟨hk,h⟩:=zbw h
   simp only [sI,sM,true_and] at h
   obtain ⟨rfl,rfl⟩:=h
   obtain ⟨i,z,hi,_,_,hiz,hg⟩:=hC.zero t gs hz
   obtain ⟨w',g',h1,h2,h3,h4⟩:=zil (P:=P) hs hk (hg g) t
   simp only [execOp,hop]
   refine Does.val (z:=.pointer (some ⟨w.heap.size,0,none⟩)) ?_ h2 h3 h4
   simp only [Instr.alloc,Sem.run_bind,zeroValue,typeInfo,run_program,Result.andThen_ok,hi,hiz,Sem.run_pure,h1]
  ·cases h
 ·-- box
  rename_i t x hop
  split at h
  ·rename_i v' hv
   split at h
   ·rename_i hok
    obtain ⟨hk,h⟩:=zbw h
    simp only [sI,sM,true_and] at h
    obtain ⟨rfl,rfl⟩:=h
    obtain ⟨w',g',h1,h2,h3,h4⟩:=zil (P:=P) hs hk ((ev_ok hs hG hv d).gs hok) t
    simp only [execOp,hop]
    refine Does.val (z:=.pointer (some ⟨w.heap.size,0,none⟩)) ?_ h2 h3 h4
    simp only [Instr.box,Sem.run_bind,h1,Result.andThen_ok,Sem.run_pure]
   ·cases h
  ·cases h
 ·-- build
  rename_i t parts hop
  split at h
  ·rename_i ps hp
   have hp':=zma hs hG d hp
   obtain ⟨rfl,z,h1,h2⟩:=zl4 hC hs h (vs:=parts.map fun (i,x)=>(i,Act.eval ⟨tm,d⟩ x)) (by rw [Array.toList_map]; exact hp')
   simp only [execOp,hop]
   exact Does.val0 h1 h2 hs
  ·cases h
 ·-- buildSlice
  rename_i t n parts hop
  split at h
  ·rename_i ps hp
   have hp':=zma hs hG d hp
   cases hown:C.own.any (Nat.beq t) && !ps.isEmpty with
   | true =>
    rw [hown,cond_true] at h
    unfold ownRow at h
    split at h
    ·rename_i v hb
     split at h
     ·rename_i x hv
      obtain ⟨hk,h⟩:=zbw h
      simp only [sI,sM] at h
      obtain ⟨_,rfl,rfl⟩:=h
      have hvf:v = .full x.1 x.2:=by
       unfold AV.toFull at hv
       split at hv
       ·cases hv; rfl
       ·cases hv
      subst hvf
      obtain ⟨z,w',g',h1,h2,h3,h4⟩:=zji hC hs hb hk (vs:=parts.map fun (i,x)=>(i,Act.eval ⟨tm,d⟩ x)) (by rw [Array.toList_map]; exact hp')
      simp only [execOp,hop]
      exact Does.val h1 h2 h3 h4
     ·cases h
    ·cases h
   | false =>
    rw [hown,cond_false] at h
    obtain ⟨rfl,z,w',g',h1,h2,h3,h4⟩:=zgi hC hs h (vs:=parts.map fun (i,x)=>(i,Act.eval ⟨tm,d⟩ x)) (by rw [Array.toList_map]; exact hp')
    simp only [execOp,hop]
    exact Does.val h1 h2 h3 h4
  ·cases h
 ·-- load
  rename_i t x hop
  split at h
  ·rename_i a ha
   obtain ⟨rfl,z,h1,h2⟩:=zho hC hs h (ev_ok hs hG ha d)
   simp only [execOp,hop]
   exact Does.val0 h1 h2.vr' hs
  ·cases h
 ·-- store
  rename_i t x y hop
  split at h
  ·rename_i a b ha hb
   obtain ⟨rfl,w',h1,h2,h3⟩:=zlT hC hs h (ev_ok hs hG ha d) (ev_ok hs hG hb d)
   simp only [execOp,hop]
   refine ⟨.skip,w',g,?_,.inr ⟨rfl,#[],rfl,trivial⟩,h2,h3⟩
   rw [Sem.run_bind,h1]
   rfl
  ·cases h
 ·-- nilCheck
  rename_i x hop
  have main:∀ v',ev C s.env x = some v'→v'.isPtr = true→Does P g s tm tms w v' (execOp (Act.eval ⟨tm,d⟩) o):=by
   intro v' hv hp
   have h1:=ev_ok hs hG hv d
   obtain ⟨ad,h2⟩:=zfn h1 hp
   simp only [execOp,hop,h2]
   rw [h2] at h1
   exact ⟨_,w,g,rfl,.inl ⟨_,rfl,h1⟩,hs,Tr.refl _ _⟩
  split at h
  ·rename_i hv
   simp only [ok,sI,sM,true_and] at h
   obtain ⟨rfl,rfl⟩:=h
   exact main _ hv rfl
  ·rename_i hv
   simp only [ok,sI,sM,true_and] at h
   obtain ⟨rfl,rfl⟩:=h
   exact main _ hv rfl
  ·rename_i hv
   simp only [ok,sI,sM,true_and] at h
   obtain ⟨rfl,rfl⟩:=h
   exact main _ hv rfl
  ·cases h
 ·-- held against nil
  rename_i op t x yt hop
  split at h
  ·rename_i a ha
   obtain ⟨rfl,z,h1,h2⟩:=zl7 hC h (w:=w) (ev_ok hs hG ha d) x
   simp only [execOp,hop]
   exact Does.val0 h1 h2 hs
  ·cases h
 ·-- typeAssert
  rename_i x xt t hop
  split at h
  ·rename_i a ha
   obtain ⟨rfl,z,h1,h2⟩:=zgk hC h (w:=w) (xt:=xt) (ev_ok hs hG ha d)
   simp only [execOp,hop]
   exact Does.val0 h1 h2 hs
  ·cases h
 ·-- makeInterface
  rename_i t x hop
  split at h
  ·rename_i a ha
   obtain ⟨rfl,h1,h2⟩:=zhx hC h (w:=w) (ev_ok hs hG ha d)
   simp only [execOp,hop]
   exact Does.val0 h1 h2 hs
  ·cases h
 ·-- makeMap
  rename_i t hop
  obtain ⟨hk,h⟩:=zbw h
  obtain ⟨z,w',g',h1,h2,h3,h4⟩:=zjr hC hs h hk
  simp only [execOp,hop]
  exact Does.val h1 h2 h3 h4
 ·-- mapUpdate
  rename_i t m k x hop
  split at h
  ·rename_i a b c ha hb hc
   obtain ⟨rfl,w',h1,h2,h3⟩:=zhw hC hs h (ev_ok hs hG ha d) (ev_ok hs hG hb d) (ev_ok hs hG hc d)
   simp only [execOp,hop]
   refine ⟨.skip,w',g,?_,.inr ⟨rfl,#[],rfl,trivial⟩,h2,h3⟩
   rw [Sem.run_bind,h1]
   rfl
  ·cases h
 ·-- entry
  rename_i x hop
  split at h
  ·rename_i b hb
   split at h
   ·rename_i K V c hc
    simp only [ok,sI,sM,true_and] at h
    obtain ⟨rfl,rfl⟩:=h
    obtain ⟨z,h1,h2⟩:=znh (P:=P) hs hc (ev_ok hs hG hb d)
    simp only [execOp,hop]
    exact Does.val0 h1 h2 hs
   ·cases h
  ·cases h
 ·-- lookup
  rename_i t m k ok hop
  split at h
  ·rename_i a b ha hb
   obtain ⟨rfl,z,h1,h2⟩:=zkV hC hs h (ev_ok hs hG ha d) (ev_ok hs hG hb d)
   simp only [execOp,hop]
   exact Does.val0 h1 h2 hs
  ·cases h
 ·-- binOp
  rename_i op t x y yt _ hop
  split at h
  ·rename_i a b ha hb
   obtain ⟨rfl,z,h1,h2⟩:=zlX hC h (w:=w) (ev_ok hs hG ha d) (ev_ok hs hG hb d) x y
   simp only [execOp,hop]
   exact Does.val0 h1 h2 hs
  ·cases h
 ·-- unOp
  rename_i op t x hop
  split at h
  ·rename_i a ha
   obtain ⟨rfl,z,h1,h2⟩:=znV (P:=P) (w:=w) h (ev_ok hs hG ha d)
   simp only [execOp,hop]
   exact Does.val0 h1 h2 hs
  ·cases h
 ·-- convert
  rename_i src dst x hop
  split at h
  ·rename_i a ha
   have h':zd7 C s.bxs (base + o.dst.getD 0) src dst a = some (true,v,e)∧∀ k b,e = .add k b→find s.bxs k = none:=by
    split at h
    ·rename_i c v' k b hc
     obtain ⟨hk,h⟩:=zbw h
     simp only [sI,sM] at h
     obtain ⟨rfl,rfl,rfl⟩:=h
     refine ⟨hc,fun k' b' e'=>?_⟩
     cases e'
     have:k = base + o.dst.getD 0:=by
      unfold zd7 at hc
      split at hc
      ·simp [ok] at hc
      ·simp [ok] at hc
      ·split at hc
       ·split at hc
        ·simp [ok] at hc
        ·cases hc
       ·cases hc
      ·split at hc
       ·simp only [sI,sM,Eff.add.injEq] at hc
        exact hc.2.2.1.symm
       ·cases hc
      ·cases hc
     rw [this]
     exact hk
    ·rename_i r hr
     refine ⟨h,fun k b e'=>?_⟩
     subst e'
     exact absurd h (hr true v k b)
   obtain ⟨z,w',g',h1,h2,h3,h4⟩:=zjn hC hs h'.1 h'.2 (ev_ok hs hG ha d)
   simp only [execOp,hop]
   exact Does.val h1 h2 h3 h4
  ·cases h
 ·-- makeFunc
  rename_i f first captured hop
  split at h
  ·rename_i l hf hl
   split at h
   ·rename_i hc
    simp only [ok,sI,sM,true_and] at h
    obtain ⟨rfl,rfl⟩:=h
    have h1:=zdS hs hG d hl
    have hfirst:first = #[]:=by
     cases first; simp only at hf; subst hf; rfl
    subst hfirst
    simp only [execOp,hop]
    refine Does.val0 (z:=.func (.func f) #[] (captured.map (Act.eval ⟨tm,d⟩))) (by simp [Instr.makeFunc]) ⟨_,rfl,?_⟩ hs
    rw [Array.toList_map]
    exact zio hc h1
   ·cases h
  ·rename_i hf hl
   split at h
   ·rename_i l hl2
    split at h
    ·rename_i hc
     simp only [ok,sI,sM,true_and] at h
     obtain ⟨rfl,rfl⟩:=h
     have h1:=zdS hs hG d hl2
     have h0:=zdS hs hG d hl
     have hcap:captured.map (Act.eval ⟨tm,d⟩) = #[]:=by
      apply Array.toList_inj.1
      rw [Array.toList_map]
      revert h0
      cases captured.toList.map (Act.eval ⟨tm,d⟩) with
      | nil=>intro _; rfl
      | cons _ _=>intro h; exact h.elim
     simp only [execOp,hop]
     refine Does.val0 (z:=.func (.func f) (first.map (Act.eval ⟨tm,d⟩)) #[]) (by rw [hcap]; simp [Instr.makeFunc]) ⟨_,rfl,?_⟩ hs
     rw [Array.toList_map]
     exact zdF hc h1
    ·cases h
   ·cases h
  ·cases h
 ·-- makeSlice
  rename_i t n c hop
  split at h
  ·rename_i a b ha hb
   obtain ⟨hk,h⟩:=zbw h
   obtain ⟨z,w',g',h1,h2,h3,h4⟩:=zhu hC hs h hk (ev_ok hs hG ha d) (ev_ok hs hG hb d)
   simp only [execOp,hop]
   exact Does.val h1 h2 h3 h4
  ·cases h
 ·-- slice
  rename_i t x lo hi mx hop
  split at h
  ·rename_i a lo' hi' mx' ha h1 h2 h3
   obtain ⟨rfl,z,h4,h5⟩:=zlY hC hs h (ev_ok hs hG ha d) (zjt hs hG d h1) (zjt hs hG d h2) (zjt hs hG d h3)
   simp only [execOp,hop]
   exact Does.val0 h4 h5 hs
  ·cases h
 ·-- fieldAddr
  rename_i t x f hop
  split at h
  ·rename_i a ha
   obtain ⟨rfl,z,h1,h2⟩:=zc0 (w:=w) hC h (ev_ok hs hG ha d)
   simp only [execOp,hop]
   exact Does.val0 h1 h2 hs
  ·cases h
 ·-- field
  rename_i t x f hop
  split at h
  ·rename_i a ha
   obtain ⟨rfl,z,h1,h2⟩:=zlV (w:=w) hC h (ev_ok hs hG ha d)
   simp only [execOp,hop]
   exact Does.val0 h1 h2 hs
  ·cases h
 ·-- indexAddr
  rename_i t x i hop
  split at h
  ·rename_i a b ha hb
   obtain ⟨rfl,z,h1,h2⟩:=zei hC hs h (ev_ok hs hG ha d) (ev_ok hs hG hb d)
   simp only [execOp,hop]
   exact Does.val0 (h1 _) h2 hs
  ·cases h
 ·-- index
  rename_i t x i hop
  split at h
  ·rename_i a b ha hb
   obtain ⟨rfl,z,h1,h2⟩:=zlW (w:=w) hC h (ev_ok hs hG ha d) (ev_ok hs hG hb d)
   simp only [execOp,hop]
   exact Does.val0 h1 h2 hs
  ·cases h
 ·-- extract
  rename_i x i hop
  split at h
  ·rename_i vs hv
   split at h
   ·rename_i v' hi
    simp only [ok,sI,sM,true_and] at h
    obtain ⟨rfl,rfl⟩:=h
    obtain ⟨arr,h1,h2⟩:=ev_ok hs hG hv d
    have h3:∀ {vs:List AV} {l:List Value} {i:Nat} {v:AV},TsR g vs l→vs[i]? = some v→∃ c,l[i]? = some c∧VR1 g v c:=by
     intro vs
     induction vs with
     | nil=>intro l i v _ h; simp at h
     | cons a vs ih =>
      intro l i v hr h
      cases l with
      | nil=>exact hr.elim
      | cons c l =>
       cases i with
       | zero=>simp only [List.getElem?_cons_zero,sI] at h; subst h; exact ⟨c,rfl,hr.1⟩
       | succ i =>
        obtain ⟨c',h1,h2⟩:=ih (l:=l) (i:=i) hr.2 (by simpa using h)
        exact ⟨c',by simpa using h1,h2⟩
    obtain ⟨c,h4,h5⟩:=h3 h2 hi
    simp only [execOp,hop,h1]
    refine Does.val0 (z:=c) ?_ h5.vr' hs
    have:arr[i]? = some c:=by rw [← Array.getElem?_toList]; exact h4
    simp [Instr.extract,this]
   ·cases h
  ·cases h
 ·-- builtins
  rename_i b args ts hop
  split at h
  ·rename_i vs hvs
   have hv:=zdS hs hG d hvs
   have two:∀ {x y:AV},vs = [x,y]→∃ a b,args.map (Act.eval ⟨tm,d⟩) = #[a,b]∧VR g x a∧VR g y b:=by
    intro x y hxy
    subst hxy
    rw [← Array.toList_map] at hv
    generalize args.map (Act.eval ⟨tm,d⟩) = arr at hv ⊢
    obtain ⟨l⟩:=arr
    match l,hv with
    | [a,b],⟨h1,h2,_⟩=>exact ⟨a,b,rfl,h1,h2⟩
   have one:∀ {x:AV},vs = [x]→∃ a,args.map (Act.eval ⟨tm,d⟩) = #[a]∧VR g x a:=by
    intro x hx
    subst hx
    rw [← Array.toList_map] at hv
    generalize args.map (Act.eval ⟨tm,d⟩) = arr at hv ⊢
    obtain ⟨l⟩:=arr
    match l,hv with
    | [a],⟨h1,_⟩=>exact ⟨a,rfl,h1⟩
   have hts:∀ {l:List TypeId},ts.toList = l→ts = l.toArray:=by
    intro l hl; subst hl; simp
   split at h
   ·rename_i t x htl
    obtain ⟨a,ha,hx⟩:=one rfl
    obtain ⟨rfl,z,h1,h2⟩:=zoz (ty:=o.type) hC hs h hx
    simp only [execOp,hop,za3,ha,hts htl]
    exact Does.val0 h1 h2 hs
   ·rename_i t yt x y htl
    obtain ⟨a,b,hab,hx,hy⟩:=two rfl
    have h':zcc C s.bxs (base + o.dst.getD 0) t x y yt = some (true,v,e)∧∀ k b,e = .add k b→find s.bxs k = none:=by
     split at h
     ·rename_i c v' k b hc
      obtain ⟨hk,h⟩:=zbw h
      simp only [sI,sM] at h
      obtain ⟨rfl,rfl,rfl⟩:=h
      refine ⟨hc,fun k' b' e'=>?_⟩
      cases e'
      have:k = base + o.dst.getD 0:=by
       unfold zcc at hc
       repeat' split at hc
       all_goals first
        | (cases hc; done)
        | (simp only [sI,sM,Eff.add.injEq] at hc; exact hc.2.2.1.symm)
        | (simp only [sI,sM,reduceCtorEq,and_false] at hc)
        | (rename_i hh; cases hb:(!_ || _:Bool) <;> simp [hb] at hc)
        | skip
       all_goals (simp only [cond_eq_ite] at hc; split at hc <;> simp at hc)
      rw [this]
      exact hk
     ·rename_i r hr
      refine ⟨h,fun k b e'=>?_⟩
      subst e'
      exact absurd h (hr true v k b)
    obtain ⟨z,w',g',h1,h2,h3,h4⟩:=zkU (ty:=o.type) hC hs h'.1 h'.2 hx hy
    simp only [execOp,hop,za3,hab,hts htl]
    exact Does.val h1 h2 h3 h4
   ·rename_i t yt x y htl
    obtain ⟨a,b,hab,hx,hy⟩:=two rfl
    obtain ⟨z,w',h1,h2,h3,h4⟩:=znf (yt:=yt) (ty:=o.type) hC hs h hx hy
    simp only [execOp,hop,za3,hab,hts htl]
    exact Does.val h1 h2 h3 h4
   ·rename_i t x htl
    obtain ⟨a,hab,hx⟩:=one rfl
    obtain ⟨rfl,w',h1,h3,h4⟩:=zl8 (ty:=o.type) hC hs h hx
    simp only [execOp,hop,za3,hab,hts htl]
    exact Does.val h1 ⟨#[],rfl,trivial⟩ h3 h4
   ·rename_i t x htl
    obtain ⟨a,hab,hx⟩:=one rfl
    unfold capV at h
    split at h
    ·rename_i e' hu
     simp only [V.ok,sI,sM,true_and] at h
     obtain ⟨rfl,rfl⟩:=h
     have hx':[a] = [Value.slice none 0 0]:=hx
     simp only [sC,and_true] at hx'
     subst hx'
     simp only [execOp,hop,za3,hab,hts htl]
     exact Does.val0 (z:=.int .i64 0) (by simp [Builtin.cap_,run_underlying (hC.sl t _ hu),goInt]) rfl hs
    ·cases h
   ·split at h
    ·rename_i v' hv'
     simp only [ok,sI,sM,true_and] at h
     obtain ⟨rfl,rfl⟩:=h
     obtain ⟨z,h1,h2⟩:=zoA (P:=P) (w:=w) hv' (args:=args.map (Act.eval ⟨tm,d⟩)) (by rw [Array.toList_map]; exact hv) ts o.type
     simp only [execOp,hop,za3]
     exact Does.val0 h1 h2 hs
    ·cases h
   ·split at h
    ·rename_i v' hv'
     simp only [ok,sI,sM,true_and] at h
     obtain ⟨rfl,rfl⟩:=h
     obtain ⟨z,h1,h2⟩:=zoB (P:=P) (w:=w) hv' (args:=args.map (Act.eval ⟨tm,d⟩)) (by rw [Array.toList_map]; exact hv) ts o.type
     simp only [execOp,hop,za3]
     exact Does.val0 h1 h2 hs
    ·cases h
   ·cases h
  ·cases h
 ·cases h
end
end Go.V
namespace Go.V
variable [Codes]
section
variable {C:Cfg} {P:Program}
theorem zkg {α:Type} (tm:Array α) (d n:Nat) (z u:α):(tm.setIfInBounds d z).getD n u = if d = n∧d < tm.size then z else tm.getD n u:=by
 simp only [Array.getD_eq_getD_getElem?,Array.getElem?_setIfInBounds]
 split
 ·rename_i h
  subst h
  split
  ·rename_i h; simp [h]
  ·rename_i h; simp [h]
 ·rename_i h; simp [h]
theorem EnvR.put {g:Gh} {env:Env} {tm:Array Value} (h:EnvR g env tm) {d:Nat} (hd:d < tm.size) {v:AV} {z:Value} (hv:VR g v z):EnvR g ((d,v) :: env) (tm.setIfInBounds d z):=by
 intro n u e
 rw [zkg]
 by_cases hn:d = n
 ·subst hn
  rw [zad] at e
  cases e
  rw [if_pos ⟨rfl,hd⟩]
  exact hv
 ·rw [zab _ _ hn] at e
  rw [if_neg (fun h=>hn h.1)]
  exact h n u e
theorem StR.put {g:Gh} {s:St} {tm:Array Value} {tms:List (Array Value)} {w:World} (h:StR g s tm tms w) {dst:Option Nat} (hd:∀ d,dst = some d→d < tm.size) {v:AV} {z:Value} (hv:VR g v z) (ds:List Deferred) :
  StR g { s with env:=putE dst v s.env } (Act.put ⟨tm,ds⟩ dst z).tmps tms w:=by
 cases dst with
 | none=>exact h
 | some d=>exact ⟨h.env.put (hd d rfl) hv,h.stk,h.bxs,h.fz⟩
theorem put_defers (tm:Array Value) (ds:List Deferred) (dst:Option Nat) (z:Value):Act.put ⟨tm,ds⟩ dst z = ⟨(Act.put ⟨tm,ds⟩ dst z).tmps,ds⟩:=by
 cases dst <;> rfl
theorem zbM (tm:Array Value) (ds:List Deferred) (dst:Option Nat) (z:Value):(Act.put ⟨tm,ds⟩ dst z).tmps.size = tm.size:=by
 cases dst with
 | none=>rfl
 | some d=>simp [Act.put]
theorem StR.ghost {g:Gh} {s:St} {tm:Array Value} {tms:List (Array Value)} {w w':World} (h:StR g s tm tms w) {fz':Nat→Nat→Option Value}
  (hfz:∀ b o v,g.fz b o = some v→fz' b o = some v) (hnew:∀ b o,fz' b o ≠ none→g.fz b o ≠ none ∨ w.heap.size≤b) (hok:FzOK ⟨fz',g.bx⟩ w')
  (os:w'.os = w.os) (tape:w'.tape = w.tape) (output:w'.output = w.output) (size:w.heap.size≤w'.heap.size) (hw:∀ b,b < w.heap.size→w'.heap[b]? = w.heap[b]?) :
  StR ⟨fz',g.bx⟩ s tm tms w'∧Tr g w ⟨fz',g.bx⟩ w':=by
 have hx:ExtBut none g ⟨fz',g.bx⟩:=⟨hfz,fun _ _ _ h=>h,fun _ _ h _=>nomatch h⟩
 have hg:=h.grow hw
 refine ⟨⟨hg.env.grow hx,hg.stk.grow hx,⟨?_,fun k gb e=>h.bxs.dom k gb e,fun k j a b blk hne e1 e2=>h.bxs.sep k j a b blk hne e1 e2⟩,hok⟩,
  ⟨os,tape,output,size,hfz,fun b o e=>(hnew b o e).imp id .inl,fun b ⟨k,gb,e1,e2⟩=>.inl ⟨k,gb,e1,e2⟩,fun b hb _=>hw b hb⟩⟩
 intro k b e1
 obtain ⟨gb,e2,e3⟩:=hg.bxs.box k b e1
 refine ⟨gb,e2,e3.ext hx (fun _ _ _=>rfl) (fun blk k1 k2 o k3=>?_) ?_⟩
 ·have hlt:=h.bxs.lt ⟨k,gb,e2,k1,k2⟩
  cases hz:fz' blk o with
  | none=>exact hz
  | some v =>
   rcases hnew blk o (by rw [hz]; simp) with h1 | h1
   ·exact absurd k3 h1
   ·omega
 ·exact zaK _
theorem StR.frzKeys {tm:Array Value} {tms:List (Array Value)} {w:World}:∀ (l:Bxs) {g:Gh} {s:St},StR g s tm tms w→∃ fz',StR ⟨fz',g.bx⟩ { s with bxs:=frzKeys l s.bxs } tm tms w∧Tr g w ⟨fz',g.bx⟩ w
 | [],g,s,h=>⟨g.fz,h,Tr.refl g w⟩
 | (k,_) :: l,g,s,h=>by
  obtain ⟨fz1,h1,t1⟩:=h.frzB k
  obtain ⟨fz2,h2,t2⟩:=StR.frzKeys l h1
  exact ⟨fz2,h2,t1.trans t2⟩
mutual
theorem StR.frz {tm:Array Value} {tms:List (Array Value)} {w:World}:∀ (v:AV) {g:Gh} {s:St},StR g s tm tms w→∃ fz',StR ⟨fz',g.bx⟩ { s with bxs:=V.frz s.bxs v } tm tms w∧Tr g w ⟨fz',g.bx⟩ w
 | .row b _,g,s,h=>by simp only [V.frz]; exact h.frzB b
 | .agg gs,g,s,h=>by simp only [V.frz]; exact StR.frzL gs h
 | .val _ _,g,s,h | .full _ _,g,s,h | .nn _ _,g,s,h | .nils,g,s,h | .tup _,g,s,h | .nilp,g,s,h | .ptr _ _ _,g,s,h | .rptr _ _ _,g,s,h | .eptr _,g,s,h | .vsl _ _ _ _ _,g,s,h
 | .fn _ _,g,s,h | .mfn _ _,g,s,h | .yld _,g,s,h | .mp _,g,s,h | .nilf,g,s,h | .iface _ _,g,s,h | .nili,g,s,h | .nilm,g,s,h | .junk,g,s,h=>⟨g.fz,by simp only [V.frz]; exact h,Tr.refl g w⟩
theorem StR.frzL {tm:Array Value} {tms:List (Array Value)} {w:World}:∀ (vs:List AV) {g:Gh} {s:St},StR g s tm tms w→∃ fz',StR ⟨fz',g.bx⟩ { s with bxs:=V.frzL s.bxs vs } tm tms w∧Tr g w ⟨fz',g.bx⟩ w
 | [],g,s,h=>⟨g.fz,by simp only [V.frzL]; exact h,Tr.refl g w⟩
 | v :: l,g,s,h=>by
  obtain ⟨fz1,h1,t1⟩:=StR.frz v h
  obtain ⟨fz2,h2,t2⟩:=StR.frzL l h1
  exact ⟨fz2,by simp only [V.frzL]; exact h2,t1.trans t2⟩
end
theorem zep {fz fz':Nat→Nat→Option Value}:∀ {T:Ty} {x:T.den} {cs:List Value},scalar T = true→CR fz T x cs→CR fz' T x cs
 | .int _,_,_,_,h=>h
 | .bool,_,_,_,h=>h
 | .str,_,_,_,h=>h
 | .unit,_,_,_,h=>h
 | .sl _,_,_,hs,_=>by simp [scalar] at hs
 | .pair a b,x,cs,hs,⟨c1,c2,e,h1,h2⟩=>by
  simp only [scalar,sA] at hs
  exact ⟨c1,c2,e,zep hs.1 h1,zep hs.2 h2⟩
 | .arr n e,l,cs,hs,⟨h1,h2⟩=>⟨h1,Elems.mono (R:=CR fz e) (fun x cs h=>zep (show scalar e = true from hs) h) h2⟩
theorem TV.scalar {fz fz':Nat→Nat→Option Value} {T:Ty} (hs:V.scalar T = true) {x:T.den} {c:Value} (h:TV fz T x c):TV fz' T x c:=by
 obtain ⟨arr,h1,h2⟩:=h
 exact ⟨arr,zep hs h1,h2⟩
def TVs (fz:Nat→Nat→Option Value):(l:List Ty)→tysDen l→List Value→Prop
 | [],_,cs=>cs = []
 | T :: l,x,c :: cs=>TV fz T x.1 c∧TVs fz l x.2 cs
 | _ :: _,_,[]=>False
theorem TVs.mono {fz fz':Nat→Nat→Option Value} (hf:∀ b o v,fz b o = some v→fz' b o = some v):∀ {l:List Ty} {x:tysDen l} {cs:List Value},TVs fz l x cs→TVs fz' l x cs
 | [],_,_,h=>h
 | _ :: _,_,_ :: _,⟨h1,h2⟩=>⟨h1.mono hf,h2.mono hf⟩
 | _ :: _,_,[],h=>h.elim
theorem TVs.scalar {fz fz':Nat→Nat→Option Value}:∀ {l:List Ty} {x:tysDen l} {cs:List Value},l.all V.scalar = true→TVs fz l x cs→TVs fz' l x cs
 | [],_,_,_,h=>h
 | _ :: _,_,_ :: _,hs,⟨h1,h2⟩=>by
  simp only [List.all_cons,sA] at hs
  exact ⟨h1.scalar hs.1,h2.scalar hs.2⟩
 | _ :: _,_,[],_,h=>h.elim
theorem TVs.vsR {g:Gh}:∀ {l:List Ty} {x:tysDen l} {cs:List Value},TVs g.fz l x cs→VsR g (tysAV l x) cs
 | [],_,_,h=>by have:_ = []:=h; subst this; exact trivial
 | _ :: _,_,_ :: _,⟨h1,h2⟩=>⟨h1.vr.vr',h2.vsR⟩
 | _ :: _,_,[],h=>h.elim
theorem TVs.tsR {g:Gh}:∀ {l:List Ty} {x:tysDen l} {cs:List Value},TVs g.fz l x cs→TsR g (tysAV l x) cs
 | [],_,_,h=>by have:_ = []:=h; subst this; exact trivial
 | _ :: _,_,_ :: _,⟨h1,h2⟩=>⟨h1.vr,h2.tsR⟩
 | _ :: _,_,[],h=>h.elim
def zdn:List Value→Value
 | [c]=>c
 | l=>.tuple l.toArray
theorem TVs.res {g:Gh} {l:List Ty} {x:tysDen l} {cs:List Value} (h:TVs g.fz l x cs):VR g (resAV l x) (zdn cs):=by
 match l,x,cs,h with
 | [],_,cs,h=>have:cs = []:=h; subst this; exact ⟨#[],rfl,trivial⟩
 | [T],x,[c],⟨h1,_⟩=>exact h1.vr.vr'
 | T :: S :: l,x,c :: d :: cs,h=>exact ⟨(c :: d :: cs).toArray,rfl,h.tsR⟩
 | [T],x,_ :: _ :: _,⟨_,h⟩=>cases h
 | _ :: _ :: _,_,[_],⟨_,h⟩=>exact h.elim
theorem zc3 {R:Type} {g:Gh} {bxs:Bxs} {w:World} (hb:BxW g bxs w) (hf:FzOK g w):∀ {l:List Ty} {vs:List AV} {K:tysDen l→Option R} {r:R} {cs:List Value},argsK bxs l vs K = some r→VsR g vs cs→∃ x,K x = some r∧TVs g.fz l x cs
 | [],[],K,r,[],h,_=>⟨(),h,rfl⟩
 | [],[],_,_,_ :: _,_,h=>h.elim
 | T :: l,v :: vs,K,r,c :: cs,h,⟨h1,h2⟩=>by
  simp only [argsK] at h
  split at h
  ·rename_i x hx
   obtain ⟨y,h3,h4⟩:=zc3 hb hf h h2
   exact ⟨(x,y),h3,zd0 hb hf hx h1,h4⟩
  ·cases h
 | T :: l,v :: vs,_,_,[],_,h=>h.elim
 | [],_ :: _,_,_,_,h,_=>by simp [argsK] at h
 | _ :: _,[],_,_,_,h,_=>by simp [argsK] at h
def Gh.of (fz:Nat→Nat→Option Value):Gh:=⟨fz,fun _=>none⟩
def zbh (P:Program) (C:Cfg) (f:FuncId) (p:PSpec):Prop :=
 ∀ fz w (args:Array Value) x y,zay C fz→FzOK (.of fz) w→TVs fz p.args x args.toList→p.fn x = some y →
  Calls P f args w fun e w'=>∃ cs fz',e = .returned (zdn cs)∧TVs fz' p.res y cs∧FzOK (.of fz') w'∧Tr (.of fz) w (.of fz') w'
def zd1 {R:Type} (P:Program) (f:FuncId) (vals:Array Value) (g:Gh) (tm:Array Value) (tms:List (Array Value)) (w:World) (K:AV→St→Option R) (r:R):Prop :=
 Calls P f vals w fun e w'=>∃ v av s' g',e = .returned v∧K av s' = some r∧VR g' av v∧StR g' s' tm tms w'∧Tr g w g' w'
theorem not_owned (fz:Nat→Nat→Option Value) (b:Nat):¬ owned (.of fz) b:=fun ⟨_,_,h,_⟩=>nomatch h
theorem zni {R:Type} {f:FuncId} {p:PSpec} (hp:zbh P C f p) {g:Gh} {s:St} {tm:Array Value} {tms:List (Array Value)} {w:World} (hs:StR g s tm tms w) (hG:zay C g.fz) {args:List AV} {K:AV→St→Option R} {r:R}
  (h:callP p args s K = some r) {vals:Array Value} (hv:VsR g args vals.toList):zd1 P f vals g tm tms w K r:=by
 have hvm:∀ {l:List AV} {cs:List Value} {g':Gh},ExtBut none g g'→VsR g l cs→VsR g' l cs:=by
  intro l
  induction l with
  | nil=>intro cs g' _ h; cases cs <;> exact h
  | cons v l ih =>
   intro cs g' hx h
   cases cs with
   | nil=>exact h.elim
   | cons c cs=>exact ⟨h.1.grow hx,ih hx h.2⟩
 unfold callP at h
 simp only at h
 cases hsc:p.res.all scalar with
 | true =>
  simp only [hsc,cond_true] at h
  obtain ⟨fz1,h1,t1⟩:=StR.frzKeys s.bxs hs
  have hx:ExtBut none g ⟨fz1,g.bx⟩:=⟨t1.fz,fun _ _ _ h=>h,fun _ _ h _=>nomatch h⟩
  obtain ⟨x,h2,h3⟩:=zc3 h1.bxs.w h1.fz h (hvm hx hv)
  rw [Option.bind_eq_some_iff] at h2
  obtain ⟨y,hy,hK⟩:=h2
  refine Calls.mono (hp fz1 w vals x y (hG.mono t1.fz) h1.fz h3 hy) ?_
  rintro e w' ⟨cs,fz2,rfl,h4,h5,t2⟩
  have hw:∀ b,b < w.heap.size→w'.heap[b]? = w.heap[b]?:=fun b hb=>t2.block b hb (not_owned _ _)
  refine ⟨_,_,s,g,rfl,hK,(TVs.scalar (fz':=g.fz) hsc h4).res,hs.grow hw,⟨t2.os,t2.tape,t2.output,t2.size,fun _ _ _ h=>h,fun _ _ h=>.inl h,fun _ h=>.inl h,fun b hb _=>hw b hb⟩⟩
 | false =>
  simp only [hsc,cond_false] at h
  obtain ⟨fz1,h1,t1⟩:=StR.frzL args hs
  have hx:ExtBut none g ⟨fz1,g.bx⟩:=⟨t1.fz,fun _ _ _ h=>h,fun _ _ h _=>nomatch h⟩
  obtain ⟨x,h2,h3⟩:=zc3 h1.bxs.w h1.fz h (hvm hx hv)
  rw [Option.bind_eq_some_iff] at h2
  obtain ⟨y,hy,hK⟩:=h2
  refine Calls.mono (hp fz1 w vals x y (hG.mono t1.fz) h1.fz h3 hy) ?_
  rintro e w' ⟨cs,fz2,rfl,h4,h5,t2⟩
  have hw:∀ b,b < w.heap.size→w'.heap[b]? = w.heap[b]?:=fun b hb=>t2.block b hb (not_owned _ _)
  obtain ⟨h6,t3⟩:=h1.ghost (fz':=fz2) t2.fz (fun b o e=>by
   rcases t2.fzNew b o e with h | h | h
   ·exact .inl h
   ·exact .inr h
   ·exact (not_owned _ _ h).elim) h5 t2.os t2.tape t2.output t2.size hw
  exact ⟨_,_,_,_,rfl,hK,h4.res,h6,t1.trans t3⟩
end
end Go.V
namespace Go.V
variable [Codes]
def AV.capIn (ks:List Nat):AV→Bool
 | .ptr b _ _=>ks.contains b
 | .mp b=>ks.contains b
 | .agg []=>true
 | _=>false
def AV.keysIn (ks:List Nat):AV→Bool
 | .ptr b _ _=>ks.contains b
 | .row b _=>ks.contains b
 | .yld b=>ks.contains b
 | .mp b=>ks.contains b
 | .vsl b _ _ _ _=>ks.contains b
 | .val (.int _) _=>true
 | .fn _ l=>l.all fun | .ptr b _ _=>ks.contains b | _=>false
 | .mfn _ l=>l.all (AV.capIn ks)
 | .nils | .nilp | .nilf | .nili | .nilm | .junk=>true
 | .tup []=>true
 | .tup (.fn _ l :: us)=>(l.all fun | .ptr b _ _=>ks.contains b | _=>false) && (us.all fun | .ptr b _ _=>ks.contains b | _=>false)
 | _=>false
def Dyn.ok (ks:List Nat):Dyn→Bool
 | .win b=>ks.contains b
 | .wino b=>ks.contains b
def Sh.ok (ks:List Nat):Sh→Bool
 | .ty _=>true
 | .cst v=>v.keysIn ks
 | .dyn k=>k.ok ks
def BSh.ok (ks:List Nat):BSh→Bool
 | .var gs=>gs.all (Sh.ok ks)
 | .row _ _=>true
 | .map _ _=>true
 | .fmap _ _=>true
 | .iter _ _=>true
 | .loop _ _ _ e=>e.all fun x=>x.2.ok ks
def Ann.ok (A:Ann):Bool :=
 let ks:=A.bxs.map (·.1)
 A.env.all (fun x=>x.2.ok ks) && A.stk.all (fun e=>e.all fun x=>x.2.ok ks) && A.bxs.all (fun x=>x.2.ok ks)
def LSpec.ok (l:LSpec):Bool:=l.head.ok && l.outs.all fun x=>x.2.ok
theorem EnvR.again {g:Gh} {env:Env} {tm:Array Value} (h:EnvR g env tm) {d:Nat} {v:AV} (hv:VR g v (tm.getD d undef)):EnvR g ((d,v) :: env) tm:=by
 intro n u e
 by_cases hn:d = n
 ·subst hn
  rw [zad] at e
  cases e
  exact hv
 ·rw [zab _ _ hn] at e
  exact h n u e
theorem StR.again {g:Gh} {s:St} {tm:Array Value} {tms:List (Array Value)} {w:World} (h:StR g s tm tms w) {d:Nat} {v:AV} (hv:VR g v (tm.getD d undef)):StR g { s with env:=(d,v) :: s.env } tm tms w :=
 ⟨h.env.again hv,h.stk,h.bxs,h.fz⟩
section
variable {P:Program} {E:Env0} {R:Type}
theorem zkh {g:Gh} {T:Ty} {v:AV} {b:Nat} {bx:Box} (h:thawV b T v = some bx) {c:Value} (hv:GR g v [c]) (k:Nat) (hk:g.bx k = none) (w:World) :
  ∃ gb:Gb,BoxR (g.put k gb) bx gb w∧(∀ blk,gb.blk = some blk→gb.own = false)∧GR (g.put k gb) (.row k .whole) [c]:=by
 unfold thawV at h
 split at h
 ·simp only [sI] at h
  subst h
  have hc:[c] = [Value.slice none 0 0]:=hv
  simp only [sC,and_true] at hc
  subst hc
  let gb:Gb:=⟨true,false,none,0,0,0,T.size,none⟩
  exact ⟨gb,⟨rfl,rfl,rfl,Nat.le_refl _,rfl,rfl,rfl⟩,(fun _ h=>nomatch h),gb,_,Gh.put_same _ _ _,rfl,rfl,rfl,rfl⟩
 ·rename_i S l
  split at h
  ·rename_i hS
   subst hS
   simp only [sI] at h
   subst h
   rcases hv with ⟨rfl,a0,hc⟩ | ⟨blk,off,cs,hc,h1,h2⟩
   ·simp only [sC,and_true] at hc
    subst hc
    let gb:Gb:=⟨true,false,none,0,0,0,S.size,a0⟩
    exact ⟨gb,⟨rfl,rfl,rfl,Nat.le_refl _,rfl,rfl,rfl⟩,(fun _ h=>nomatch h),gb,_,Gh.put_same _ _ _,rfl,rfl,rfl,rfl⟩
   simp only [sC,and_true] at hc
   subst hc
   let gb:Gb:=⟨true,false,some blk,off,l.length,l.length,S.size,none⟩
   exact ⟨gb,⟨rfl,rfl,rfl,Nat.le_refl _,.inl rfl,rfl,cs,h1,h2⟩,(fun _ _=>rfl),gb,_,Gh.put_same _ _ _,rfl,rfl,rfl⟩
  ·cases h
 ·cases h
theorem grownBy_refl (w:World):w.grownBy w none:=⟨rfl,rfl,rfl,Nat.le_refl _,fun _ _ _=>rfl⟩
theorem ziq {w:Win} {α:Type} {x y:α} (h:(match w with | .whole=>some x | _=>none) = some y):x = y:=by
 cases w <;> simp at h
 exact h
theorem znj {g:Gh} {s s':St} {tm:Array Value} {tms:List (Array Value)} {w:World} (hs:StR g s tm tms w) {t:Thaw} (h:thaw1 s t = some s'):∃ g',StR g' s' tm tms w∧Tr g w g' w:=by
 cases t with
 | slot n b T =>
  simp only [thaw1] at h
  split at h
  ·cases hb:Nat.beq _ b
   ·rw [hb] at h; cases h
   ·rw [hb] at h
    simp only [cond_true] at h
    have:=ziq h
    subst this
    exact ⟨g,hs,Tr.refl _ _⟩
  ·rename_i v _ hv
   split at h
   ·rename_i bx hbx hf
    simp only [sI] at h
    subst h
    have hvr:=hs.env n v hv
    have hg:GR g v [tm.getD n undef]:=by
     unfold thawV at hbx
     split at hbx
     ·exact hvr
     ·exact hvr
     ·cases hbx
    obtain ⟨gb,h1,h2,h3⟩:=zkh hbx hg b (hs.bxs.none hf) w
    obtain ⟨h4,h5,h6⟩:=hs.add hf (grownBy_refl w) bx gb h1 (fun blk e1 e2=>by rw [h2 blk e1] at e2; cases e2)
    exact ⟨_,h4.again (v:=.row b .whole) h3,h5⟩
   ·cases h
  ·cases h
 | cell k i b T =>
  simp only [thaw1] at h
  split at h
  ·rename_i gs hk
   split at h
   ·cases hb:Nat.beq _ b
    ·rw [hb] at h; cases h
    ·rw [hb] at h
     simp only [cond_true] at h
     have:=ziq h
     subst this
     exact ⟨g,hs,Tr.refl _ _⟩
   ·rename_i v _ hv
    split at h
    ·rename_i bx hbx hf
     simp only [sI] at h
     subst h
     obtain ⟨gbk,hgk,hbk⟩:=hs.bxs.box k _ hk
     obtain ⟨k1,k2,blk,cells,k3,k4,k5,k6⟩:=hbk
     have cut:∀ {gs:List AV} {i:Nat} {cells:List Value},gs[i]? = some v→GsR g gs cells→∃ c1 c c2,cells = c1++(c++c2)∧GR g v c ∧
       ∀ (g':Gh) (u:AV),(∀ x y,GR g x y→GR g' x y)→GR g' u c→GsR g' (gs.set i u) (c1++(c++c2)):=by
      intro gs
      induction gs with
      | nil=>intro i cells h; simp at h
      | cons a gs ih =>
       intro i cells h hg
       obtain ⟨d1,d2,rfl,h1,h2⟩:=hg
       cases i with
       | zero =>
        simp only [List.getElem?_cons_zero,sI] at h
        subst h
        refine ⟨[],d1,d2,rfl,h1,fun g' u hm hu=>⟨d1,d2,rfl,hu,?_⟩⟩
        clear ih h1
        induction gs generalizing d2 with
        | nil=>exact h2
        | cons x l ih2=>obtain ⟨e1,e2,rfl,h3,h4⟩:=h2; exact ⟨e1,e2,rfl,hm _ _ h3,ih2 _ h4⟩
       | succ i =>
        obtain ⟨c1,c,c2,rfl,h3,h4⟩:=ih (i:=i) (by simpa using h) h2
        refine ⟨d1++c1,c,c2,by simp,h3,fun g' u hm hu=>?_⟩
        rw [List.append_assoc]
        exact ⟨d1,_,rfl,hm _ _ h1,h4 g' u hm hu⟩
     obtain ⟨c1,c,c2,hcells,hvc,hset⟩:=cut hv k5
     have hone:∃ x,c = [x]:=by
      unfold thawV at hbx
      split at hbx
      ·exact ⟨_,hvc⟩
      ·rcases hvc with ⟨_,_,e⟩ | ⟨_,_,_,e,_⟩ <;> exact ⟨_,e⟩
      ·cases hbx
     obtain ⟨x,rfl⟩:=hone
     obtain ⟨gb,h1,h2,h3⟩:=zkh hbx hvc b (hs.bxs.none hf) w
     have hkb:k ≠ b:=fun e=>by rw [e,hf] at hk; cases hk
     obtain ⟨h4,h5,h6⟩:=hs.add hf (grownBy_refl w) bx gb h1 (fun blk e1 e2=>by rw [h2 blk e1] at e2; cases e2)
     have hgk':(g.put b gb).bx k = some gbk:=by rw [Gh.put_other _ _ hkb]; exact hgk
     have hbox:BoxR (g.put b gb) (.var (gs.set i (.row b .whole))) gbk w:=by
      refine ⟨k1,k2,blk,cells,k3,k4,?_,k6⟩
      rw [hcells]
      exact hset _ _ (fun x y hxy=>hxy.ext h6 (zeL x)) h3
     obtain ⟨h7,h8⟩:=h4.upd hgk' k3 k2 k6 rfl rfl rfl (Nat.le_refl _) (fun _ _ _=>rfl) _ hbox
     have e1:(Eff.upd k (.var (gs.set i (.row b .whole)))).apply ((Eff.add b bx).apply s) = { s with bxs:=(b,bx) :: setB s.bxs k (.var (gs.set i (.row b .whole))) }:=by
      simp only [Eff.apply,setB,zb6 (Ne.symm hkb),cond_false]
     rw [e1] at h7
     exact ⟨_,h7,h5.trans h8⟩
    ·cases h
   ·cases h
  ·cases h
theorem zeT {tm:Array Value} {tms:List (Array Value)} {w:World}:∀ {l:List Thaw} {g:Gh} {s s':St},StR g s tm tms w→zeF l s = some s'→∃ g',StR g' s' tm tms w∧Tr g w g' w
 | [],g,s,s',hs,h=>by
  simp only [zeF,sI] at h
  subst h
  exact ⟨g,hs,Tr.refl _ _⟩
 | t :: l,g,s,s',hs,h=>by
  simp only [zeF] at h
  split at h
  ·rename_i s1 h1
   obtain ⟨g1,h2,t1⟩:=znj hs h1
   obtain ⟨g2,h3,t2⟩:=zeT h2 h
   exact ⟨g2,h3,t1.trans t2⟩
  ·cases h
def Gh.keep (g:Gh) (ks:List Nat):Gh:=⟨g.fz,fun k=>if k∈ks then g.bx k else none⟩
theorem zbS (g:Gh) {ks:List Nat} {k:Nat} (h:ks.contains k = true):(g.keep ks).bx k = g.bx k:=by
 simp only [Gh.keep]
 rw [if_pos (by simpa using h)]
theorem zir {g:Gh} {ks:List Nat}:∀ {l:List AV} {vs:List Value},(l.all fun | .ptr b _ _=>ks.contains b | _=>false) = true→CapsR g l vs→CapsR (g.keep ks) l vs
 | [],[],_,h=>h
 | [],_ :: _,_,h=>h.elim
 | _ :: _,[],_,h=>h.elim
 | a :: l,v :: vs,hk,⟨h1,h2⟩=>by
  simp only [List.all_cons,sA] at hk
  refine ⟨?_,zir hk.2 h2⟩
  unfold CapR at h1 ⊢
  split at h1
  ·obtain ⟨gb,blk,e1,r⟩:=h1
   exact ⟨gb,blk,by rw [zbS g hk.1]; exact e1,r⟩
  ·exact absurd hk.1 (by simp)
  ·exact absurd hk.1 (by simp)
  ·exact h1.elim
theorem zgJ {g:Gh} {ks:List Nat}:∀ {l:List AV} {vs:List Value},l.all (AV.capIn ks) = true→CapsR g l vs→CapsR (g.keep ks) l vs
 | [],[],_,h=>h
 | [],_ :: _,_,h=>h.elim
 | _ :: _,[],_,h=>h.elim
 | a :: l,v :: vs,hk,⟨h1,h2⟩=>by
  simp only [List.all_cons,sA] at hk
  refine ⟨?_,zgJ hk.2 h2⟩
  unfold CapR at h1 ⊢
  split at h1
  ·obtain ⟨gb,blk,e1,r⟩:=h1
   exact ⟨gb,blk,by rw [zbS g hk.1]; exact e1,r⟩
  ·obtain ⟨gb,blk,e1,r⟩:=h1
   exact ⟨gb,blk,by rw [zbS g hk.1]; exact e1,r⟩
  ·exact h1
  ·exact h1.elim
theorem zcs {g:Gh} {ks:List Nat} {v:AV} (hk:v.keysIn ks = true) {cs:List Value} (h:GR g v cs):GR (g.keep ks) v cs:=by
 cases v <;> simp only [AV.keysIn,sF] at hk
 case ptr b off p=>obtain ⟨gb,blk,e1,r⟩:=h; exact ⟨gb,blk,by rw [zbS g hk]; exact e1,r⟩
 case row b w=>obtain ⟨gb,v,e1,r⟩:=h; exact ⟨gb,v,by rw [zbS g hk]; exact e1,r⟩
 case yld b=>obtain ⟨gb,l,e1,r⟩:=h; exact ⟨gb,l,by rw [zbS g hk]; exact e1,r⟩
 case mp b=>obtain ⟨gb,l,e1,r⟩:=h; exact ⟨gb,l,by rw [zbS g hk]; exact e1,r⟩
 case vsl b o n p k=>obtain ⟨gb,l,cap,e1,r⟩:=h; exact ⟨gb,l,cap,by rw [zbS g hk]; exact e1,r⟩
 case fn f l=>obtain ⟨vs,e,h⟩:=h; exact ⟨vs,e,zir hk h⟩
 case mfn f l=>obtain ⟨vs,e,h⟩:=h; exact ⟨vs,e,zgJ hk h⟩
 case tup l=>exact h.elim
 all_goals exact h
theorem znW {g g':Gh} {c:Value} (h:VR g (.tup []) c):VR g' (.tup []) c:=by
 obtain ⟨⟨l⟩,e,h⟩:=h
 cases l with
 | nil=>exact ⟨_,e,trivial⟩
 | cons a l=>exact h.elim
theorem zis {g:Gh} {ks:List Nat}:∀ {l:List AV} {cs:List Value},(l.all fun | .ptr b _ _=>ks.contains b | _=>false) = true→TsR g l cs→TsR (g.keep ks) l cs
 | [],[],_,h=>h
 | [],_ :: _,_,h=>h.elim
 | _ :: _,[],_,h=>h.elim
 | a :: l,c :: cs,hk,⟨h1,h2⟩=>by
  simp only [List.all_cons,sA] at hk
  refine ⟨?_,zis hk.2 h2⟩
  cases a <;> simp only [sF] at hk
  case ptr b off p=>exact zcs (v:=.ptr b off p) hk.1 h1
  all_goals exact hk.1.elim
theorem zhy {g:Gh} {ks:List Nat} {v:AV} (hk:v.keysIn ks = true) {c:Value} (h:VR g v c):VR (g.keep ks) v c:=by
 cases v <;> simp only [AV.keysIn,sF] at hk
 case tup l =>
  cases l with
  | nil=>exact znW h
  | cons a l =>
   cases a <;> simp only [AV.keysIn,sF] at hk
   case fn f caps =>
    simp only [sA] at hk
    obtain ⟨arr,e,ht⟩:=h
    refine ⟨arr,e,?_⟩
    generalize arr.toList = cs at ht
    cases cs with
    | nil=>exact ht.elim
    | cons c cs =>
     refine ⟨zcs (v:=.fn f caps) (by simp only [AV.keysIn]; exact hk.1) ht.1,?_⟩
     exact zis hk.2 ht.2
 case ptr b off p=>exact zcs (v:=.ptr b off p) hk h
 case row b w=>exact zcs (v:=.row b w) hk h
 case yld b=>exact zcs (v:=.yld b) hk h
 case mp b=>exact zcs (v:=.mp b) hk h
 case vsl b o n p k=>exact zcs (v:=.vsl b o n p k) hk h
 case val T x=>cases T <;> first | exact h | (simp at hk; done)
 case fn f l=>exact zcs (v:=.fn f l) hk h
 case mfn f l=>exact zcs (v:=.mfn f l) hk h
 all_goals exact h
theorem zkY {a b:AV} (h:ziV a b = true):a = b:=by
 unfold ziV at h
 split at h
 ·simp only [sA] at h
  rw [sB h.1,sB h.2]
 ·rw [sB h]
 ·rfl
 ·cases h
theorem zc4:∀ {a b:List AV},zcf a b = true→a = b
 | [],[],_=>rfl
 | [],_ :: _,h=>by simp [zcf] at h
 | _ :: _,[],h=>by simp [zcf] at h
 | a :: l,b :: m,h=>by
  simp only [zcf,sA] at h
  rw [zkY h.1,zc4 h.2]
theorem same_eq {a b : AV} (h : a.same b = true) : a = b := by
  unfold AV.same at h
  split at h <;> first
    | rfl
    | (cases h; done)
    | (simp only [sA] at h; rw [sB h.1, sB h.2]; done)
    | (simp only [sA] at h; rw [sB h.1, zc4 h.2]; done)
    | (simp only [sA] at h; rw [sB h.1, zc4 h.2.1, zc4 h.2.2]; done)
    | (rw [sB h])
    | (simp only [sA] at h; rw [sB h.1, sB h.2.1, sB h.2.2.1, sB h.2.2.2.1, sB h.2.2.2.2]; done)
    | (simp only [sA, decide_eq_true_eq] at h
       obtain ⟨h1, h2⟩ := h
       subst h1
       rw [show (_ : (Ty.int _).den) = _ from h2])
theorem zmb {g:Gh} {bxs:Bxs} {w:World} (hbx:BxW g bxs w) {k:Dyn} {v:AV} {x:k.den} (h:k.of bxs v = some x):v.okGs = true∧(∀ c,VR g v c→VR g (k.av x) c)∧(∀ cs,GR g v cs→GR g (k.av x) cs):=by
 cases k with
 | win b =>
  have hv:(∃ c,v = .row c .whole∧(bif Nat.beq c b then (match find bxs b with | some (.row _ _ l)=>some l.length | _=>none) else none) = some x) ∨ ∃ c n full,v = .row c (.part 0 n full)∧(bif Nat.beq c b then some n else none) = some x:=by
   cases v <;> simp only [Dyn.of,reduceCtorEq] at h
   case row c wn =>
    cases wn with
    | whole=>exact .inl ⟨c,rfl,h⟩
    | part off n full =>
     cases off with
     | zero=>exact .inr ⟨c,n,full,rfl,h⟩
     | succ k=>simp at h
  clear h
  rcases hv with ⟨c,rfl,h⟩ | ⟨c,n,full,rfl,h⟩
  ·cases hb:Nat.beq c b with
   | false=>rw [hb] at h; cases h
   | true =>
    rw [hb,cond_true] at h
    have:=sB hb
    subst this
    split at h
    ·rename_i T fz l hf
     cases h
     obtain ⟨gb0,f1,f2⟩:=hbx.box _ _ hf
     have main:∀ cs,GR g (.row c .whole) cs→GR g (.row c (.part 0 l.length false)) cs:=by
      rintro cs ⟨gb,v,e1,e2,e3,e4⟩
      have hgb:gb0 = gb:=by rw [e1] at f1; exact (Option.some.inj f1).symm
      rw [hgb] at f2
      have hlen:gb.len = l.length:=f2.2.2.1
      have hcap:gb.len≤gb.cap:=f2.2.2.2.1
      refine ⟨gb,v,e1,e2,e3,?_⟩
      unfold WinR at e4 ⊢
      cases hbl:gb.blk with
      | none=>simp only [hbl] at e4 ⊢; exact ⟨trivial,by omega,e4.2,e4.1⟩
      | some blk =>
       simp only [hbl] at e4 ⊢
       subst e4
       exact ⟨by omega,_,gb.cap,by rw [hlen],rfl,by omega,(fun h=>nomatch h),by omega,.inr (by simp)⟩
     exact ⟨rfl,fun c h=>main [c] h,main⟩
    ·cases h
  ·cases hb:Nat.beq c b with
   | false=>rw [hb] at h; cases h
   | true =>
    rw [hb] at h
    cases h
    have:=sB hb
    subst this
    have main:∀ cs,GR g (.row c (.part 0 x full)) cs→GR g (.row c (.part 0 x false)) cs:=by
     rintro cs ⟨gb,v,e1,e2,e3,e4⟩
     refine ⟨gb,v,e1,e2,e3,?_⟩
     unfold WinR at e4 ⊢
     cases hbl:gb.blk with
     | none=>simp only [hbl] at e4 ⊢; exact e4
     | some blk =>
      simp only [hbl] at e4 ⊢
      obtain ⟨h1,a,cc,h2,h3,h4,_,h5⟩:=e4
      exact ⟨h1,a,cc,h2,h3,h4,(fun h=>nomatch h),h5⟩
    exact ⟨rfl,fun c h=>main [c] h,main⟩
 | wino b =>
  have hv:∃ c o n full,v = .row c (.part o n full)∧(bif Nat.beq c b then some (o,n) else none) = some x:=by
   cases v <;> simp only [Dyn.of,reduceCtorEq] at h
   case row c wn =>
    cases wn with
    | whole=>simp at h
    | part off n full=>exact ⟨c,off,n,full,rfl,h⟩
  clear h
  obtain ⟨c,o,n,full,rfl,h⟩:=hv
  cases hb:Nat.beq c b with
  | false=>rw [hb] at h; cases h
  | true =>
   rw [hb] at h
   cases h
   have:=sB hb
   subst this
   have main:∀ cs,GR g (.row c (.part o n full)) cs→GR g (.row c (.part o n false)) cs:=by
    rintro cs ⟨gb,v,e1,e2,e3,e4⟩
    refine ⟨gb,v,e1,e2,e3,?_⟩
    unfold WinR at e4 ⊢
    cases hbl:gb.blk with
    | none=>simp only [hbl] at e4 ⊢; exact e4
    | some blk =>
     simp only [hbl] at e4 ⊢
     obtain ⟨h1,a,cc,h2,h3,h4,_,h5⟩:=e4
     exact ⟨h1,a,cc,h2,h3,h4,(fun h=>nomatch h),h5⟩
   exact ⟨rfl,fun c h=>main [c] h,main⟩
theorem zeq {ks:List Nat} {k:Dyn} (h:k.ok ks = true) (x:k.den):(k.av x).keysIn ks = true:=by
 cases k <;> exact h
theorem zmc {fz:Nat→Nat→Option Value} {w:World}:BxR (.of fz) [] w :=
 ⟨(fun _ _ h=>nomatch h),(fun _ _ h=>nomatch h),(fun _ _ _ _ _ _ h=>nomatch h)⟩
theorem zoD {g:Gh} {bxs:Bxs} {w:World} (hb:BxW g bxs w) (hf:FzOK g w) {T:Ty} {v:AV} {K:T.den→Option R} {r:R} (h:dec1 bxs T v K = some r):∃ x,K x = some r∧∀ cs,GR g v cs→CR g.fz T x cs:=by
 unfold dec1 at h
 split at h
 ·rename_i x hx
  exact ⟨x,h,fun cs hv=>zjf hb hf hx hv⟩
 ·cases h
theorem zfo {g:Gh} {bxs:Bxs} {w:World} (hb:BxW g bxs w) (hf:FzOK g w) {ks:List Nat}:∀ {l:List Sh} {vs:List AV} {K:shDen l→Option R} {r:R},l.all (Sh.ok ks) = true→decSh bxs l vs K = some r→∃ x,K x = some r∧∀ cs,GsR g vs cs→GsR (g.keep ks) (encSh l x) cs
 | [],[],K,r,_,h=>⟨(),h,fun _ h=>h⟩
 | .ty T :: l,v :: vs,K,r,hk,h=>by
  simp only [List.all_cons,sA] at hk
  obtain ⟨x,h1,h2⟩:=zoD (K:=fun x=>decSh bxs l vs fun y=>K (x,y)) hb hf h
  obtain ⟨y,h3,h4⟩:=zfo hb hf hk.2 h1
  exact ⟨(x,y),h3,fun cs ⟨c1,c2,e,k1,k2⟩=>⟨c1,c2,e,h2 _ k1,h4 _ k2⟩⟩
 | .cst c :: l,v :: vs,K,r,hk,h=>by
  simp only [List.all_cons,sA] at hk
  simp only [decSh] at h
  cases hs:v.same c
  ·rw [hs] at h; cases h
  ·rw [hs] at h
   simp only [cond_true] at h
   have:=same_eq hs
   subst this
   obtain ⟨y,h3,h4⟩:=zfo hb hf hk.2 h
   exact ⟨y,h3,fun cs ⟨c1,c2,e,k1,k2⟩=>⟨c1,c2,e,zcs hk.1 k1,h4 _ k2⟩⟩
 | .dyn c :: l,v :: vs,K,r,hk,h=>by
  simp only [List.all_cons,sA] at hk
  simp only [decSh] at h
  split at h
  ·rename_i x hx
   obtain ⟨y,h3,h4⟩:=zfo hb hf hk.2 h
   exact ⟨(x,y),h3,fun cs ⟨c1,c2,e,k1,k2⟩=>⟨c1,c2,e,zcs (zeq hk.1 x) ((zmb hb hx).2.2 _ k1),h4 _ k2⟩⟩
  ·cases h
 | .dyn _ :: _,[],_,_,_,h=>by simp [decSh] at h
 | [],_ :: _,_,_,_,h=>by simp [decSh] at h
 | .ty _ :: _,[],_,_,_,h=>by simp [decSh] at h
 | .cst _ :: _,[],_,_,_,h=>by simp [decSh] at h
theorem zct {g:Gh} {bxs:Bxs} {w:World} (hb:BxW g bxs w) (hf:FzOK g w) {ks:List Nat} {env:Env} {tm:Array Value} (he:EnvR g env tm):∀ {l:List (Nat × Sh)} {K:envDen l→Option R} {r:R},(l.all fun x=>x.2.ok ks) = true→zdf bxs env l K = some r →
  ∃ x,K x = some r∧EnvR (g.keep ks) (zdd l x) tm
 | [],K,r,_,h=>⟨(),h,fun _ _ h=>nomatch h⟩
 | (n,.ty T) :: l,K,r,hk,h=>by
  simp only [List.all_cons,sA] at hk
  simp only [zdf] at h
  split at h
  ·rename_i v hv
   split at h
   ·rename_i x hx
    obtain ⟨y,h3,h4⟩:=zct hb hf he hk.2 h
    exact ⟨(x,y),h3,EnvR.again h4 (TV.vr (g:=g.keep ks) (zd0 hb hf hx (he n v hv))).vr'⟩
   ·cases h
  ·cases h
 | (n,.cst c) :: l,K,r,hk,h=>by
  simp only [List.all_cons,sA] at hk
  simp only [zdf] at h
  split at h
  ·rename_i v hv
   cases hs:v.same c
   ·rw [hs] at h; cases h
   ·rw [hs] at h
    simp only [cond_true] at h
    have:=same_eq hs
    subst this
    obtain ⟨y,h3,h4⟩:=zct hb hf he hk.2 h
    exact ⟨y,h3,EnvR.again h4 (zhy hk.1 (he n v hv))⟩
  ·cases h
 | (n,.dyn c) :: l,K,r,hk,h=>by
  simp only [List.all_cons,sA] at hk
  simp only [zdf] at h
  split at h
  ·rename_i v hv
   split at h
   ·rename_i x hx
    obtain ⟨y,h3,h4⟩:=zct hb hf he hk.2 h
    exact ⟨(x,y),h3,EnvR.again h4 (zhy (zeq hk.1 x) ((zmb hb hx).2.1 _ (he n v hv)))⟩
   ·cases h
  ·cases h
theorem zit {g:Gh} {bxs:Bxs} {w:World} (hb:BxW g bxs w) (hf:FzOK g w) {ks:List Nat}:∀ {stk:List Env} {tms:List (Array Value)} {l:List (List (Nat × Sh))} {K:stkDen l→Option R} {r:R},StkR g stk tms→(l.all fun e=>e.all fun x=>x.2.ok ks) = true→zgp bxs stk l K = some r →
  ∃ x,K x = some r∧StkR (g.keep ks) (zlf l x) tms
 | [],tms,[],K,r,hs,_,h=>⟨(),h,by cases tms <;> exact hs⟩
 | env :: stk,tm :: tms,e :: l,K,r,hs,hk,h=>by
  simp only [List.all_cons,sA] at hk
  simp only [zgp] at h
  obtain ⟨x,h1,h2⟩:=zct hb hf hs.1 hk.1 h
  obtain ⟨y,h3,h4⟩:=zit hb hf hs.2 hk.2 h1
  exact ⟨(x,y),h3,h2,h4⟩
 | _ :: _,[],_,_,_,hs,_,_=>hs.elim
 | [],_,_ :: _,_,_,_,_,h=>by simp [zgp] at h
 | _ :: _,_ :: _,[],_,_,_,_,h=>by simp [zgp] at h
theorem zmd {T:Ty} {fz:Bool} {b:Box} {K:List T.den→Option R} {r:R} (h:zlg T fz b K = some r):∃ l,K l = some r∧b = .row T fz l:=by
 unfold zlg at h
 split at h
 ·rename_i S f l
  split at h
  ·rename_i hS
   subst hS
   cases hf:f == fz
   ·rw [hf] at h; cases h
   ·rw [hf] at h
    have:=eq_of_beq hf
    subst this
    exact ⟨l,h,rfl⟩
  ·cases h
 ·cases h
theorem zme {S V:Ty} {b:Box} {K:List (S.den × V.den)→Option R} {r:R} (h:zlh S V b K = some r):∃ l,K l = some r∧b = .map S V l:=by
 unfold zlh at h
 split at h
 ·rename_i K' V' l hb
  split at h
  ·rename_i hS
   obtain ⟨rfl,rfl⟩:=hS
   exact ⟨l,h,zfI hb⟩
  ·cases h
 ·cases h
theorem zgK {S V:Ty} {o:Option ((K:Ty) × (V:Ty) × List (K.den × V.den))} {K:List (S.den × V.den)→Option R} {r:R} (h:zg3 S V o K = some r):∃ l,K l = some r∧o = some ⟨S,V,l⟩:=by
 unfold zg3 at h
 split at h
 ·rename_i K' V' l
  split at h
  ·rename_i hS
   obtain ⟨rfl,rfl⟩:=hS
   exact ⟨l,h,rfl⟩
  ·cases h
 ·cases h
theorem zhz {g:Gh} {ks:List Nat} {T:Ty} {fz:Bool} {l:List T.den} {gb:Gb} {w:World} (h:BoxR g (.row T fz l) gb w):BoxR (g.keep ks) (.row T fz l) gb w:=zcr rfl h
theorem zbN {g:Gh} {bxs:Bxs} {w:World} (hf:FzOK g w) (hb:BxW g bxs w) {ks:List Nat}:∀ {l:List (Nat × BSh)} {K:bxsDen l→Option R} {r:R},(l.all fun x=>x.2.ok ks) = true→zb3 bxs l K = some r →
  ∃ x,K x = some r∧∀ k b,find (zar l x) k = some b→∃ gb,g.bx k = some gb∧BoxR (g.keep ks) b gb w
 | [],K,r,_,h=>⟨(),h,fun _ _ h=>nomatch h⟩
 | (n,.var gs) :: l,K,r,hk,h=>by
  simp only [List.all_cons,sA] at hk
  simp only [zb3] at h
  split at h
  ·rename_i vs hv
   obtain ⟨x,h1,h2⟩:=zfo hb hf hk.1 h
   obtain ⟨y,h3,h4⟩:=zbN hf hb hk.2 h1
   refine ⟨(x,y),h3,fun k b e=>?_⟩
   by_cases hn:n = k
   ·subst hn
    simp only [zar,zad,sI] at e
    subst e
    obtain ⟨gb,e1,k1,k2,blk,cells,k3,k4,k5,k6⟩:=hb.box n _ hv
    exact ⟨gb,e1,k1,k2,blk,cells,k3,k4,h2 _ k5,k6⟩
   ·simp only [zar,zab _ _ hn] at e
    exact h4 k b e
  ·cases h
 | (n,.row T fz) :: l,K,r,hk,h=>by
  simp only [List.all_cons,sA] at hk
  simp only [zb3] at h
  split at h
  ·rename_i b hv
   obtain ⟨x,h1,rfl⟩:=zmd h
   obtain ⟨y,h3,h4⟩:=zbN hf hb hk.2 h1
   refine ⟨(x,y),h3,fun k b e=>?_⟩
   by_cases hn:n = k
   ·subst hn
    simp only [zar,zad,sI] at e
    subst e
    obtain ⟨gb,e1,k1⟩:=hb.box n _ hv
    exact ⟨gb,e1,zhz k1⟩
   ·simp only [zar,zab _ _ hn] at e
    exact h4 k b e
  ·cases h
 | (n,.map S V) :: l,K,r,hk,h=>by
  simp only [List.all_cons,sA] at hk
  simp only [zb3] at h
  split at h
  ·rename_i b hv
   obtain ⟨x,h1,rfl⟩:=zme h
   obtain ⟨y,h3,h4⟩:=zbN hf hb hk.2 h1
   refine ⟨(x,y),h3,fun k b e=>?_⟩
   by_cases hn:n = k
   ·subst hn
    simp only [zar,zad,sI] at e
    subst e
    obtain ⟨gb,e1,k1⟩:=hb.box n _ hv
    exact ⟨gb,e1,k1⟩
   ·simp only [zar,zab _ _ hn] at e
    exact h4 k b e
  ·cases h
 | (n,.fmap S V) :: l,K,r,hk,h=>by
  simp only [List.all_cons,sA] at hk
  simp only [zb3] at h
  split at h
  ·rename_i b hv
   obtain ⟨x,h1,ho⟩:=zgK h
   have hbe:=zjb ho
   subst hbe
   obtain ⟨y,h3,h4⟩:=zbN hf hb hk.2 h1
   refine ⟨(x,y),h3,fun k b e=>?_⟩
   by_cases hn:n = k
   ·subst hn
    simp only [zar,zad,sI] at e
    subst e
    obtain ⟨gb,e1,k1⟩:=hb.box n _ hv
    exact ⟨gb,e1,k1⟩
   ·simp only [zar,zab _ _ hn] at e
    exact h4 k b e
  ·cases h
 | (n,.iter S V) :: l,K,r,hk,h=>by
  simp only [List.all_cons,sA] at hk
  simp only [zb3] at h
  split at h
  ·rename_i b hv
   obtain ⟨x,h1,ho⟩:=zgK h
   obtain ⟨c,rfl⟩:=zfJ ho
   obtain ⟨y,h3,h4⟩:=zbN hf hb hk.2 h1
   refine ⟨(x,y),h3,fun k b e=>?_⟩
   by_cases hn:n = k
   ·subst hn
    simp only [zar,zad,sI] at e
    subst e
    obtain ⟨gb,e1,k1⟩:=hb.box n _ hv
    exact ⟨gb,e1,k1.curNone⟩
   ·simp only [zar,zab _ _ hn] at e
    exact h4 k b e
  ·cases h
 | (n,.loop u f i e0) :: l,K,r,hk,h=>by
  simp only [List.all_cons,sA] at hk
  simp only [zb3] at h
  split at h
  ·rename_i u' f' i' env hv
   cases hs:(u' == u && (Nat.beq f' f && Nat.beq i' i)) with
   | false=>rw [hs] at h; cases h
   | true =>
    rw [hs,cond_true] at h
    simp only [sA] at hs
    have hu:=eq_of_beq hs.1
    have hff:=sB hs.2.1
    have hii:=sB hs.2.2
    subst hu hff hii
    obtain ⟨gb,e1,k1,k2,lb,tm,D,fnr,cd,k3,k7,k4,k5,k6⟩:=hb.box n _ hv
    obtain ⟨x,h1,h2⟩:=zct hb hf (show EnvR g env tm from k5) hk.1 h
    obtain ⟨y,h3,h4⟩:=zbN hf hb hk.2 h1
    refine ⟨(x,y),h3,fun k b e=>?_⟩
    by_cases hn:n = k
    ·subst hn
     simp only [zar,zad,sI] at e
     subst e
     exact ⟨gb,e1,k1,k2,lb,tm,D,fnr,cd,k3,k7,k4,h2,k6⟩
    ·simp only [zar,zab _ _ hn] at e
     exact h4 k b e
  ·cases h
theorem zaQ:∀ {l:List (Nat × BSh)} {x:bxsDen l} {k:Nat},k∈l.map (·.1)→(find (zar l x) k).isSome = true
 | [],_,_,h=>by simp at h
 | (n,.var gs) :: l,x,k,h=>by
  by_cases hn:n = k
  ·subst hn; simp [zar,zad]
  ·simp only [zar,zab _ _ hn]
   exact zaQ (by simp only [List.map_cons,List.mem_cons] at h; exact h.resolve_left (Ne.symm hn))
 | (n,.row T fz) :: l,x,k,h=>by
  by_cases hn:n = k
  ·subst hn; simp [zar,zad]
  ·simp only [zar,zab _ _ hn]
   exact zaQ (by simp only [List.map_cons,List.mem_cons] at h; exact h.resolve_left (Ne.symm hn))
 | (n,.map S V) :: l,x,k,h=>by
  by_cases hn:n = k
  ·subst hn; simp [zar,zad]
  ·simp only [zar,zab _ _ hn]
   exact zaQ (by simp only [List.map_cons,List.mem_cons] at h; exact h.resolve_left (Ne.symm hn))
 | (n,.fmap S V) :: l,x,k,h=>by
  by_cases hn:n = k
  ·subst hn; simp [zar,zad]
  ·simp only [zar,zab _ _ hn]
   exact zaQ (by simp only [List.map_cons,List.mem_cons] at h; exact h.resolve_left (Ne.symm hn))
 | (n,.iter S V) :: l,x,k,h=>by
  by_cases hn:n = k
  ·subst hn; simp [zar,zad]
  ·simp only [zar,zab _ _ hn]
   exact zaQ (by simp only [List.map_cons,List.mem_cons] at h; exact h.resolve_left (Ne.symm hn))
 | (n,.loop u f i e) :: l,x,k,h=>by
  by_cases hn:n = k
  ·subst hn; simp [zar,zad]
  ·simp only [zar,zab _ _ hn]
   exact zaQ (by simp only [List.map_cons,List.mem_cons] at h; exact h.resolve_left (Ne.symm hn))
theorem zaG:∀ {l:List (Nat × BSh)} {x:bxsDen l} {k:Nat} {b:Box},find (zar l x) k = some b→k∈l.map (·.1)
 | [],_,_,_,h=>nomatch h
 | (n,.var gs) :: l,x,k,b,h=>by
  by_cases hn:n = k
  ·subst hn; simp
  ·simp only [zar,zab _ _ hn] at h
   simp only [List.map_cons,List.mem_cons]
   exact .inr (zaG h)
 | (n,.row T fz) :: l,x,k,b,h=>by
  by_cases hn:n = k
  ·subst hn; simp
  ·simp only [zar,zab _ _ hn] at h
   simp only [List.map_cons,List.mem_cons]
   exact .inr (zaG h)
 | (n,.map S V) :: l,x,k,b,h=>by
  by_cases hn:n = k
  ·subst hn; simp
  ·simp only [zar,zab _ _ hn] at h
   simp only [List.map_cons,List.mem_cons]
   exact .inr (zaG h)
 | (n,.fmap S V) :: l,x,k,b,h=>by
  by_cases hn:n = k
  ·subst hn; simp
  ·simp only [zar,zab _ _ hn] at h
   simp only [List.map_cons,List.mem_cons]
   exact .inr (zaG h)
 | (n,.iter S V) :: l,x,k,b,h=>by
  by_cases hn:n = k
  ·subst hn; simp
  ·simp only [zar,zab _ _ hn] at h
   simp only [List.map_cons,List.mem_cons]
   exact .inr (zaG h)
 | (n,.loop u f i e) :: l,x,k,b,h=>by
  by_cases hn:n = k
  ·subst hn; simp
  ·simp only [zar,zab _ _ hn] at h
   simp only [List.map_cons,List.mem_cons]
   exact .inr (zaG h)
theorem zki {A:Ann} (hA:A.ok = true) {g:Gh} {s:St} {tm:Array Value} {tms:List (Array Value)} {w:World} (hs:StR g s tm tms w) {K:A.den→Option R} {r:R} (h:A.dec s K = some r) :
  ∃ x g',K x = some r∧StR g' (A.enc x) tm tms w∧Tr g w g' w:=by
 simp only [Ann.ok,sA] at hA
 obtain ⟨⟨a1,a2⟩,a3⟩:=hA
 unfold Ann.dec at h
 simp only at h
 obtain ⟨fz1,hs1,t1⟩:=StR.frzL (zde s.env A.env++ziW s.stk A.stk++zbs s.bxs A.bxs) hs
 obtain ⟨x,h1,h2⟩:=zct hs1.bxs.w hs1.fz hs1.env a1 h
 obtain ⟨y,h3,h4⟩:=zit hs1.bxs.w hs1.fz hs1.stk a2 h1
 obtain ⟨z,h5,h6⟩:=zbN hs1.fz hs1.bxs.w a3 h3
 refine ⟨(x,y,z),Gh.keep ⟨fz1,g.bx⟩ (A.bxs.map (·.1)),h5,⟨h2,h4,⟨?_,?_,?_⟩,hs1.fz⟩,t1.trans ⟨rfl,rfl,rfl,Nat.le_refl _,fun _ _ _ h=>h,fun _ _ h=>.inl h,?_,fun _ _ _=>rfl⟩⟩
 ·intro k b e
  obtain ⟨gb,e1,e2⟩:=h6 k b e
  refine ⟨gb,?_,e2⟩
  rw [zbS _ (by simpa using zaG e)]
  exact e1
 ·intro k gb e
  simp only [Gh.keep] at e
  split at e
  ·rename_i hk
   exact zaQ hk
  ·cases e
 ·intro k j a b blk hne e1 e2
  simp only [Gh.keep] at e1 e2
  split at e1
  ·split at e2
   ·exact hs1.bxs.sep k j a b blk hne e1 e2
   ·cases e2
  ·cases e1
 ·rintro b ⟨k,gb,e1,e2⟩
  simp only [Gh.keep] at e1
  split at e1
  ·exact .inl ⟨k,gb,e1,e2⟩
  ·cases e1
theorem ziu {e:Ex} {g:Gh} {s:St} {tm:Array Value} {tms:List (Array Value)} {w:World} (hs:StR g s tm tms w):∀ {l:List (Ex × Ann)} {o:outDen l},(l.all fun x=>x.2.ok) = true→zgq e s l = some o →
  ∃ A x g',(∀ (R:Type) (K:Ex→St→Option R),outK K l o = K e (Ann.enc A x))∧StR g' (Ann.enc A x) tm tms w∧Tr g w g' w
 | [],o,_,h=>nomatch o
 | [(f,A)],o,hk,h=>by
  simp only [List.all_cons,sA] at hk
  simp only [zgq] at h
  split at h
  ·rename_i hf
   subst hf
   obtain ⟨x,g',h1,h2,h3⟩:=zki hk.1 hs h
   cases h1
   exact ⟨A,_,g',fun _ _=>rfl,h2,h3⟩
  ·cases h
 | (f,A) :: b :: l,o,hk,h=>by
  simp only [List.all_cons,sA] at hk
  simp only [zgq] at h
  split at h
  ·rename_i hf
   subst hf
   obtain ⟨x,g',h1,h2,h3⟩:=zki hk.1 hs h
   cases h1
   exact ⟨A,x,g',fun _ _=>rfl,h2,h3⟩
  ·rw [Option.map_eq_some_iff] at h
   obtain ⟨o',h1,rfl⟩:=h
   obtain ⟨A',x,g',h2,h3,h4⟩:=ziu (l:=b :: l) hs (by simp only [List.all_cons,sA]; exact hk.2) h1
   exact ⟨A',x,g',fun R K=>h2 R K,h3,h4⟩
end
end Go.V
namespace Go.V
variable [Codes]
section
variable {P:Program} {C:Cfg}
def zhA (P:Program) (C:Cfg) (f:FuncId) (p:RSpec):Prop :=
 ∀ (fz:Nat→Nat→Option Value) (w:World) (args:Array Value) (x:tysDen p.args) (l:List p.T.den),zay C fz→FzOK (.of fz) w→TVs fz p.args x args.toList→p.fn x = some l →
  Calls P f args w fun e w'=>∃ v fz' gb,e = .returned v∧gb.isRow = true∧WinR gb .whole v∧BoxR (.of fz') (.row p.T p.fz l) gb w'∧(∀ blk,gb.blk = some blk→gb.own = true→w.heap.size≤blk)∧FzOK (.of fz') w'∧Tr (.of fz) w (.of fz') w'
theorem StR.addAt {g:Gh} {s:St} {tm:Array Value} {tms:List (Array Value)} {w:World} (h:StR g s tm tms w) {key:Nat} (hk:find s.bxs key = none)
  (b:Box) (gb:Gb) (hb:BoxR (g.put key gb) b gb w) (ho:∀ blk,gb.blk = some blk→gb.own = true→¬ owned g blk) :
  StR (g.put key gb) { s with bxs:=(key,b) :: s.bxs } tm tms w∧ExtBut none g (g.put key gb):=by
 have hn:=h.bxs.none hk
 have hx:=zeM gb hn
 refine ⟨⟨h.env.grow hx,h.stk.grow hx,⟨?_,?_,?_⟩,fun b o v e=>h.fz b o v e⟩,hx⟩
 ·intro k b' e
  by_cases hkk:key = k
  ·subst hkk
   rw [zad] at e
   cases e
   exact ⟨gb,Gh.put_same _ _ _,hb⟩
  ·rw [zab _ _ hkk] at e
   obtain ⟨gb',e1,e2⟩:=h.bxs.box k b' e
   exact ⟨gb',by rw [Gh.put_other _ _ (Ne.symm hkk)]; exact e1,e2.ext hx (fun _ _ _=>rfl) (fun _ _ _ _ h=>h) (zaK _)⟩
 ·intro k gb' e
  by_cases hkk:key = k
  ·subst hkk; rw [zad]; rfl
  ·rw [Gh.put_other _ _ (Ne.symm hkk)] at e
   rw [zab _ _ hkk]
   exact h.bxs.dom k gb' e
 ·intro k j a b' blk hne e1 e2 a1 a2 b1 b2
  by_cases hk1:k = key
  ·subst hk1
   rw [Gh.put_same] at e1
   cases e1
   rw [Gh.put_other _ _ (Ne.symm hne)] at e2
   exact ho blk a1 a2 ⟨j,b',e2,b1,b2⟩
  ·rw [Gh.put_other _ _ hk1] at e1
   by_cases hj:j = key
   ·subst hj
    rw [Gh.put_same] at e2
    cases e2
    exact ho blk b1 b2 ⟨k,a,e1,a1,a2⟩
   ·rw [Gh.put_other _ _ hj] at e2
    exact h.bxs.sep k j a b' blk hne e1 e2 a1 a2 b1 b2
theorem Tr.putRow {g0 g:Gh} {w0 w:World} (t:Tr g0 w0 g w) {key:Nat} {gb:Gb} (ho:∀ blk,gb.blk = some blk→gb.own = true→w0.heap.size≤blk):Tr g0 w0 (g.put key gb) w :=
 ⟨t.os,t.tape,t.output,t.size,t.fz,t.fzNew,by
  rintro b ⟨k,a,e1,e2,e3⟩
  by_cases hk:k = key
  ·subst hk
   rw [Gh.put_same] at e1
   cases e1
   exact .inr (ho b e2 e3)
  ·rw [Gh.put_other _ _ hk] at e1
   exact t.own b ⟨k,a,e1,e2,e3⟩,t.block⟩
def MapOK (P:Program) (C:Cfg) (f:FuncId) (p:MSpec):Prop :=
 ∀ (fz:Nat→Nat→Option Value) (w:World) (args:Array Value) (cs:List Value) (x:tysDen p.args) (l:List (p.K.den × p.V.den)),zay C fz→FzOK (.of fz) w→args.toList = cs++[.func (.func p.arg) #[] #[]]→TVs fz p.args x cs→p.fn x = some l →
  Calls P f args w fun e w'=>∃ r fz' gb,e = .returned (.map (some r))∧gb.isRow = false∧gb.blk = some r∧BoxR (.of fz') (.map p.K p.V l) gb w'∧w.heap.size≤r∧FzOK (.of fz') w'∧Tr (.of fz) w (.of fz') w'
theorem zgL {g:Gh} {q:Nat}:∀ {l vs:List AV} {cs:List Value},zeG q l = some vs→VsR g l cs→∃ c1,cs = c1++[.func (.func q) #[] #[]]∧VsR g vs c1
 | [],_,_,h,_=>by simp [zeG] at h
 | [v],vs,cs,h,hv=>by
  simp only [zeG] at h
  split at h
  ·rename_i f
   cases hq:Nat.beq f q with
   | false=>rw [hq] at h; cases h
   | true =>
    rw [hq,cond_true] at h
    cases h
    match cs,hv with
    | [c],⟨h1,_⟩ =>
     obtain ⟨vs,e,hc⟩:=(show GR g (.fn f []) [c] from h1)
     simp only [sC,and_true] at e
     have:vs = #[]:=by
      obtain ⟨l⟩:=vs
      cases l with
      | nil=>rfl
      | cons a l=>exact hc.elim
     rw [e,this,sB hq]
     exact ⟨[],rfl,trivial⟩
    | [],h1=>exact h1.elim
    | _ :: _ :: _,h1=>exact h1.2.elim
  ·cases h
 | v :: u :: l,vs,cs,h,hv=>by
  simp only [zeG] at h
  rw [Option.map_eq_some_iff] at h
  obtain ⟨vs',h1,rfl⟩:=h
  match cs,hv with
  | c :: cs,⟨k1,k2⟩ =>
   obtain ⟨c1,rfl,k3⟩:=zgL h1 k2
   exact ⟨c :: c1,rfl,k1,k3⟩
  | [],hv=>exact hv.elim
theorem znk {R:Type} {f:FuncId} {p:MSpec} (hp:MapOK P C f p) {g:Gh} {s:St} {tm:Array Value} {tms:List (Array Value)} {w:World} (hs:StR g s tm tms w) (hG:zay C g.fz) {key:Nat} {args:List AV} {K:AV→St→Option R} {r:R}
  (h:callM p key args s K = some r) {vals:Array Value} (hv:VsR g args vals.toList):zd1 P f vals g tm tms w K r:=by
 have hvm:∀ {l:List AV} {cs:List Value} {g':Gh},ExtBut none g g'→VsR g l cs→VsR g' l cs:=by
  intro l
  induction l with
  | nil=>intro cs g' _ h; cases cs <;> exact h
  | cons v l ih =>
   intro cs g' hx h
   cases cs with
   | nil=>exact h.elim
   | cons c cs=>exact ⟨h.1.grow hx,ih hx h.2⟩
 unfold callM at h
 split at h
 ·rename_i vs hsp
  obtain ⟨c1,hc1,hv1⟩:=zgL hsp hv
  split at h
  ·rename_i hfree
   obtain ⟨fz1,h1,t1⟩:=StR.frzL vs hs
   have hx:ExtBut none g ⟨fz1,g.bx⟩:=⟨t1.fz,fun _ _ _ h=>h,fun _ _ h _=>nomatch h⟩
   obtain ⟨x,h2,h3⟩:=zc3 h1.bxs.w h1.fz h (hvm hx hv1)
   rw [Option.bind_eq_some_iff] at h2
   obtain ⟨y,hy,hK⟩:=h2
   refine Calls.mono (hp fz1 w vals c1 x y (hG.mono t1.fz) h1.fz hc1 h3 hy) ?_
   rintro e w' ⟨rr,fz2,gb,rfl,k1,k2,k3,k4,h5,t2⟩
   have hw:∀ b,b < w.heap.size→w'.heap[b]? = w.heap[b]?:=fun b hb=>t2.block b hb (not_owned _ _)
   obtain ⟨h6,t3⟩:=h1.ghost (fz':=fz2) t2.fz (fun b o e=>by
    rcases t2.fzNew b o e with h | h | h
    ·exact .inl h
    ·exact .inr h
    ·exact (not_owned _ _ h).elim) h5 t2.os t2.tape t2.output t2.size hw
   have k4':∀ blk,gb.blk = some blk→gb.own = true→w.heap.size≤blk:=fun blk e1 _=>by
    rw [k2] at e1
    cases e1
    exact k4
   obtain ⟨h7,hx2⟩:=h6.addAt (key:=key) hfree (.map p.K p.V y) gb k3 (fun blk e1 e2 ⟨k,a,q1,q2,q3⟩=>by
    have:=h1.bxs.lt ⟨k,a,q1,q2,q3⟩
    have:=k4' blk e1 e2
    omega)
   exact ⟨_,_,_,_,rfl,hK,⟨gb,rr,Gh.put_same _ _ _,k1,k2,rfl⟩,h7,(t1.trans t3).putRow k4'⟩
  ·cases h
 ·cases h
theorem znl {R:Type} {f:FuncId} {p:RSpec} (hp:zhA P C f p) {g:Gh} {s:St} {tm:Array Value} {tms:List (Array Value)} {w:World} (hs:StR g s tm tms w) (hG:zay C g.fz) {key:Nat} {args:List AV} {K:AV→St→Option R} {r:R}
  (h:callR p key args s K = some r) {vals:Array Value} (hv:VsR g args vals.toList):zd1 P f vals g tm tms w K r:=by
 have hvm:∀ {l:List AV} {cs:List Value} {g':Gh},ExtBut none g g'→VsR g l cs→VsR g' l cs:=by
  intro l
  induction l with
  | nil=>intro cs g' _ h; cases cs <;> exact h
  | cons v l ih =>
   intro cs g' hx h
   cases cs with
   | nil=>exact h.elim
   | cons c cs=>exact ⟨h.1.grow hx,ih hx h.2⟩
 unfold callR at h
 split at h
 ·rename_i hfree
  obtain ⟨fz1,h1,t1⟩:=StR.frzL args hs
  have hx:ExtBut none g ⟨fz1,g.bx⟩:=⟨t1.fz,fun _ _ _ h=>h,fun _ _ h _=>nomatch h⟩
  obtain ⟨x,h2,h3⟩:=zc3 h1.bxs.w h1.fz h (hvm hx hv)
  rw [Option.bind_eq_some_iff] at h2
  obtain ⟨y,hy,hK⟩:=h2
  refine Calls.mono (hp fz1 w vals x y (hG.mono t1.fz) h1.fz h3 hy) ?_
  rintro e w' ⟨v,fz2,gb,rfl,k1,k2,k3,k4,h5,t2⟩
  have hw:∀ b,b < w.heap.size→w'.heap[b]? = w.heap[b]?:=fun b hb=>t2.block b hb (not_owned _ _)
  obtain ⟨h6,t3⟩:=h1.ghost (fz':=fz2) t2.fz (fun b o e=>by
   rcases t2.fzNew b o e with h | h | h
   ·exact .inl h
   ·exact .inr h
   ·exact (not_owned _ _ h).elim) h5 t2.os t2.tape t2.output t2.size hw
  obtain ⟨h7,hx2⟩:=h6.addAt (key:=key) hfree (.row p.T p.fz y) gb (zcr rfl k3) (fun blk e1 e2 ⟨k,a,q1,q2,q3⟩=>by
   have:=h1.bxs.lt ⟨k,a,q1,q2,q3⟩
   have:=k4 blk e1 e2
   omega)
  exact ⟨_,_,_,_,rfl,hK,⟨gb,v,Gh.put_same _ _ _,k1,rfl,k2⟩,h7,(t1.trans t3).putRow k4⟩
 ·cases h
end
end Go.V
namespace Go.V
variable [Codes]
def kindOk:List (Nat × BSh)→List (Nat × BSh)→Bool
 | [],[]=>true
 | (k,.row _ _) :: l,(j,.row _ _) :: m=>Nat.beq k j && kindOk l m
 | (k,.var _) :: l,(j,.var _) :: m=>Nat.beq k j && kindOk l m
 | _,_=>false
def CSpec.ok (c:CSpec):Bool :=
 let ks:=c.ins.map (·.1)
 c.args.all (fun x=>x.2.ok ks) && c.ins.all (fun x=>x.2.ok ks) && c.res.all (fun x=>x.ok ks && (match x with | .cst v=>v.okGs | .ty _=>true | .dyn _=>true)) && c.outs.all (fun x=>x.2.ok ks) && kindOk c.ins c.outs && idsOk ks
section
variable {P:Program} {C:Cfg}
theorem zfR {g:Gh}:∀ {args:List AV} {k:Nat} {vals:List Value},VsR g args vals→∀ n v,find (params k args) n = some v→∃ i,n = k + i∧∃ c,vals[i]? = some c∧VR g v c
 | [],_,_,_,_,_,h=>nomatch h
 | _ :: _,_,[],h,_,_,_=>h.elim
 | a :: l,k,c :: vals,⟨h1,h2⟩,n,v,h=>by
  simp only [params] at h
  by_cases hn:k = n
  ·subst hn
   rw [zad] at h
   cases h
   exact ⟨0,rfl,c,rfl,h1⟩
  ·rw [zab _ _ hn] at h
   obtain ⟨i,e,c',h3,h4⟩:=zfR h2 n v h
   exact ⟨i + 1,by omega,c',by simpa using h3,h4⟩
def zgM (P:Program) (C:Cfg) (f:FuncId) (c:CSpec):Prop :=
 ∀ (g:Gh) (w:World) (vals:Array Value) (xa:envDen c.args) (xb:bxsDen c.ins) y,zay C g.fz→StR g { env:=zdd c.args xa,stk:=[],bxs:=zar c.ins xb } vals [] w→c.fn (xa,xb) = some y →
  Calls P f vals w fun e w'=>∃ cs g',e = .returned (zdn cs)∧VsR g' (encV c.res y.1) cs∧BxR g' (zar c.outs y.2) w'∧FzOK g' w'∧Tr g w g' w' ∧
   ∀ k gb,g.bx k = some gb→gb.isRow = false→∃ gb',g'.bx k = some gb'∧gb'.isRow = false∧gb'.blk = gb.blk
def Gh.mix (g h:Gh) (l:List Nat):Gh:=⟨h.fz,fun k=>if k∈l then h.bx k else g.bx k⟩
theorem zaL:∀ {l:List (Nat × BSh)} {k:Nat},k∈zaq l→k∈l.map (·.1)
 | (j,.row _ _) :: l,k,h=>by
  simp only [zaq,List.mem_cons] at h
  simp only [List.map_cons,List.mem_cons]
  exact h.imp id zaL
 | (j,.var _) :: l,k,h=>by
  simp only [zaq] at h
  simp only [List.map_cons,List.mem_cons]
  exact .inr (zaL h)
 | (j,.loop _ _ _ _) :: l,k,h=>by
  simp only [zaq] at h
  simp only [List.map_cons,List.mem_cons]
  exact .inr (zaL h)
 | (j,.map _ _) :: l,k,h=>by
  simp only [zaq] at h
  simp only [List.map_cons,List.mem_cons]
  exact .inr (zaL h)
 | (j,.fmap _ _) :: l,k,h=>by
  simp only [zaq] at h
  simp only [List.map_cons,List.mem_cons]
  exact .inr (zaL h)
 | (j,.iter _ _) :: l,k,h=>by
  simp only [zaq] at h
  simp only [List.map_cons,List.mem_cons]
  exact .inr (zaL h)
theorem zbk:∀ {l:List (Nat × BSh)},idsOk (l.map (·.1)) = true→(zaq l).Nodup
 | [],_=>by simp [zaq]
 | (j,.row _ _) :: l,h=>by
  simp only [List.map_cons,idsOk,sA,Bool.not_eq_true'] at h
  simp only [zaq,List.nodup_cons]
  refine ⟨fun hm=>?_,zbk h.2⟩
  have:=List.contains_iff_mem.2 (zaL hm)
  rw [this] at h
  cases h.1
 | (j,.var _) :: l,h=>by
  simp only [List.map_cons,idsOk,sA,Bool.not_eq_true'] at h
  simp only [zaq]
  exact zbk h.2
 | (j,.loop _ _ _ _) :: l,h=>by
  simp only [List.map_cons,idsOk,sA,Bool.not_eq_true'] at h
  simp only [zaq]
  exact zbk h.2
 | (j,.map _ _) :: l,h=>by
  simp only [List.map_cons,idsOk,sA,Bool.not_eq_true'] at h
  simp only [zaq]
  exact zbk h.2
 | (j,.fmap _ _) :: l,h=>by
  simp only [List.map_cons,idsOk,sA,Bool.not_eq_true'] at h
  simp only [zaq]
  exact zbk h.2
 | (j,.iter _ _) :: l,h=>by
  simp only [List.map_cons,idsOk,sA,Bool.not_eq_true'] at h
  simp only [zaq]
  exact zbk h.2
theorem zkj {g h:Gh} {done:List Nat} {k:Nat} (hd:k ∉ done) (hk:∀ gb,g.bx k = some gb→gb.isRow = true):ExtBut (some k) (g.mix h done) (g.mix h (k :: done)):=by
 refine ⟨fun _ _ _ h=>h,fun j a hj e=>?_,fun j a hj e=>?_⟩
 ·have hne:j ≠ k:=fun e=>hj (by rw [e])
  simp only [Gh.mix] at e ⊢
  by_cases hd:j∈done
  ·rw [if_pos hd] at e; rw [if_pos (List.mem_cons_of_mem _ hd)]; exact e
  ·rw [if_neg hd] at e; rw [if_neg (by simp [hne,hd])]; exact e
 ·cases hj
  simp only [Gh.mix] at e
  rw [if_neg hd] at e
  exact hk a e
theorem zfS {g h:Gh} {tm:Array Value} {tms:List (Array Value)} :
  ∀ (l done:List Nat) {s:St},(∀ k∈l,∀ gb,g.bx k = some gb→gb.isRow = true)→l.Nodup→(∀ k∈l,k ∉ done)→EnvR (g.mix h done) s.env tm→StkR (g.mix h done) s.stk tms →
   EnvR (g.mix h (l.reverse++done)) (zcT l s).env tm∧StkR (g.mix h (l.reverse++done)) (zcT l s).stk tms
 | [],done,s,_,_,_,h1,h2=>⟨h1,h2⟩
 | k :: l,done,s,hk,hn,hd,h1,h2=>by
  have hx:=zkj (h:=h) (hd k (by simp)) (hk k (by simp))
  have hn':=List.nodup_cons.1 hn
  have:=zfS (h:=h) l (k :: done) (s:={ env:=zdc k s.env,stk:=zgo k s.stk,bxs:=zcm k s.bxs }) (fun j hj=>hk j (by simp [hj])) hn'.2
   (fun j hj hm=>by
    rcases List.mem_cons.1 hm with rfl | hm
    ·exact hn'.1 hj
    ·exact hd j (by simp [hj]) hm) (h1.stale hx) (h2.stale hx)
  simp only [List.reverse_cons,List.append_assoc,List.singleton_append]
  exact this
theorem ze5 {g h:Gh} {w:World}:∀ (l done:List Nat) {s:St} {j:Nat} {b:Box} {gb:Gb},(∀ k∈l,∀ gb,g.bx k = some gb→gb.isRow = true)→l.Nodup→(∀ k∈l,k ∉ done)→find (zcT l s).bxs j = some b →
  ∃ b0,find s.bxs j = some b0∧(BoxR (g.mix h done) b0 gb w→BoxR (g.mix h (l.reverse++done)) b gb w)
 | [],done,s,j,b,gb,_,_,_,hb=>⟨b,hb,fun h=>h⟩
 | k :: l,done,s,j,b,gb,hk,hn,hd,hb=>by
  have hx:=zkj (h:=h) (hd k (by simp)) (hk k (by simp))
  have hn':=List.nodup_cons.1 hn
  obtain ⟨b1,h1,h2⟩:=ze5 (h:=h) (w:=w) (gb:=gb) l (k :: done) (s:={ env:=zdc k s.env,stk:=zgo k s.stk,bxs:=zcm k s.bxs }) (fun j hj=>hk j (by simp [hj])) hn'.2
   (fun j hj hm=>by
    rcases List.mem_cons.1 hm with rfl | hm
    ·exact hn'.1 hj
    ·exact hd j (by simp [hj]) hm) hb
  simp only [za2] at h1
  rw [Option.map_eq_some_iff] at h1
  obtain ⟨b0,h3,rfl⟩:=h1
  refine ⟨b0,h3,fun hbx=>?_⟩
  simp only [List.reverse_cons,List.append_assoc,List.singleton_append]
  exact h2 (hbx.extStale hx (fun _ _ _=>rfl) (fun _ _ _ _ h=>h))
theorem zc5:∀ (l:List Nat) {s:St} {j:Nat},(find (zcT l s).bxs j).isSome = (find s.bxs j).isSome
 | [],_,_=>rfl
 | k :: l,s,j=>by
  simp only [zcT]
  rw [zc5 l]
  simp only [za2,Option.isSome_map]
theorem zd2:∀ {l:Bxs} {b:Bxs} {k:Nat},find (zjO l b) k = match find l k with | some x=>some x | none=>find b k
 | [],b,k=>rfl
 | (j,y) :: l,b,k=>by
  simp only [zjO]
  by_cases hj:j = k
  ·subst hj; rw [zaF]; simp [find]
  ·rw [zav _ _ hj,zd2]; simp [find,zb6 hj]
theorem zju {g:Gh}:∀ {vs:List AV} {cs:List Value},VsR g vs cs→vs.all AV.okGs = true→TsR g vs cs
 | [],[],_,_=>trivial
 | [],_ :: _,h,_=>h.elim
 | _ :: _,[],h,_=>h.elim
 | v :: vs,c :: cs,⟨h1,h2⟩,hk=>by
  simp only [List.all_cons,sA] at hk
  exact ⟨VR.vr1 hk.1 h1,zju h2 hk.2⟩
theorem zmf {g:Gh} {vs:List AV} {cs:List Value} (h:VsR g vs cs) (hk:vs.all AV.okGs = true):VR g (tup1 vs) (zdn cs):=by
 match vs,cs,h,hk with
 | [],[],_,_=>exact ⟨#[],rfl,trivial⟩
 | [v],[c],h,_=>exact h.1
 | v :: u :: vs,c :: d :: cs,h,hk=>exact ⟨_,rfl,zju h hk⟩
 | [],_ :: _,h,_=>exact h.elim
 | _ :: _,[],h,_=>exact h.elim
 | [_],_ :: _ :: _,h,_=>exact h.2.elim
 | _ :: _ :: _,[_],h,_=>exact h.2.elim
structure Bridge (g2 g3:Gh) (ks rk:List Nat):Prop where
 old:∀ k∈ks,k ∉ rk→∀ gb3,g3.bx k = some gb3→gb3.isRow = false∧∃ gb2,g2.bx k = some gb2∧gb2.isRow = false∧gb2.blk = gb3.blk
theorem Bridge.ptr {g2 g3:Gh} {ks rk:List Nat} (hB:Bridge g2 g3 ks rk) {k:Nat} (hk:k∈ks) {gb:Gb} (h:g3.bx k = some gb) (hr:gb.isRow = false):∃ gb',(g2.mix g3 rk).bx k = some gb'∧gb'.isRow = false∧gb'.blk = gb.blk:=by
 by_cases hm:k∈rk
 ·exact ⟨gb,by simp only [Gh.mix]; rw [if_pos hm]; exact h,hr,rfl⟩
 ·obtain ⟨_,gb2,e1,e2,e3⟩:=hB.old k hk hm gb h
  exact ⟨gb2,by simp only [Gh.mix]; rw [if_neg hm]; exact e1,e2,e3⟩
theorem Bridge.caps {g2 g3:Gh} {ks rk:List Nat} (hB:Bridge g2 g3 ks rk):∀ {l:List AV} {vs:List Value},(l.all fun | .ptr b _ _=>ks.contains b | _=>false) = true→CapsR g3 l vs→CapsR (g2.mix g3 rk) l vs
 | [],[],_,h=>h
 | [],_ :: _,_,h=>h.elim
 | _ :: _,[],_,h=>h.elim
 | a :: l,v :: vs,hk,⟨h1,h2⟩=>by
  simp only [List.all_cons,sA] at hk
  refine ⟨?_,hB.caps hk.2 h2⟩
  unfold CapR at h1 ⊢
  split at h1
  ·obtain ⟨gb,blk,e1,e2,e3,e4⟩:=h1
   obtain ⟨gb',k1,k2,k3⟩:=hB.ptr (List.contains_iff_mem.1 hk.1) e1 e2
   exact ⟨gb',blk,k1,k2,by rw [k3]; exact e3,e4⟩
  ·exact absurd hk.1 (by simp)
  ·exact absurd hk.1 (by simp)
  ·exact h1.elim
theorem Bridge.mcaps {g2 g3:Gh} {ks rk:List Nat} (hB:Bridge g2 g3 ks rk):∀ {l:List AV} {vs:List Value},l.all (AV.capIn ks) = true→CapsR g3 l vs→CapsR (g2.mix g3 rk) l vs
 | [],[],_,h=>h
 | [],_ :: _,_,h=>h.elim
 | _ :: _,[],_,h=>h.elim
 | a :: l,v :: vs,hk,⟨h1,h2⟩=>by
  simp only [List.all_cons,sA] at hk
  refine ⟨?_,hB.mcaps hk.2 h2⟩
  unfold CapR at h1 ⊢
  split at h1
  ·obtain ⟨gb,blk,e1,e2,e3,e4⟩:=h1
   obtain ⟨gb',k1,k2,k3⟩:=hB.ptr (List.contains_iff_mem.1 hk.1) e1 e2
   exact ⟨gb',blk,k1,k2,by rw [k3]; exact e3,e4⟩
  ·obtain ⟨gb,blk,e1,e2,e3,e4⟩:=h1
   obtain ⟨gb',k1,k2,k3⟩:=hB.ptr (List.contains_iff_mem.1 hk.1) e1 e2
   exact ⟨gb',blk,k1,k2,by rw [k3]; exact e3,e4⟩
  ·exact h1
  ·exact h1.elim
theorem Bridge.gr {g2 g3:Gh} {ks rk:List Nat} (hB:Bridge g2 g3 ks rk) {v:AV} (hk:v.keysIn ks = true) {cs:List Value} (h:GR g3 v cs):GR (g2.mix g3 rk) v cs:=by
 cases v <;> simp only [AV.keysIn,sF] at hk
 case ptr b off p =>
  obtain ⟨gb,blk,e1,e2,e3,r⟩:=h
  obtain ⟨gb',k1,k2,k3⟩:=hB.ptr (List.contains_iff_mem.1 hk) e1 e2
  exact ⟨gb',blk,k1,k2,by rw [k3]; exact e3,r⟩
 case row b w =>
  obtain ⟨gb,v,e1,e2,r⟩:=h
  have hm:b∈rk:=by
   refine Classical.byContradiction fun hm=>?_
   have:=(hB.old b (List.contains_iff_mem.1 hk) hm gb e1).1
   rw [e2] at this
   cases this
  exact ⟨gb,v,by simp only [Gh.mix]; rw [if_pos hm]; exact e1,e2,r⟩
 case fn f l=>obtain ⟨vs,e,h⟩:=h; exact ⟨vs,e,hB.caps hk h⟩
 case mfn f l=>obtain ⟨vs,e,h⟩:=h; exact ⟨vs,e,hB.mcaps hk h⟩
 case yld b =>
  obtain ⟨gb,l,e1,e2,e3,r⟩:=h
  obtain ⟨gb',k1,k2,k3⟩:=hB.ptr (List.contains_iff_mem.1 hk) e1 e2
  exact ⟨gb',l,k1,k2,by rw [k3]; exact e3,r⟩
 case mp b =>
  obtain ⟨gb,l,e1,e2,e3,r⟩:=h
  obtain ⟨gb',k1,k2,k3⟩:=hB.ptr (List.contains_iff_mem.1 hk) e1 e2
  exact ⟨gb',l,k1,k2,by rw [k3]; exact e3,r⟩
 case vsl b o n p k =>
  obtain ⟨gb,blk,cap,e1,e2,e3,r⟩:=h
  obtain ⟨gb',k1,k2,k3⟩:=hB.ptr (List.contains_iff_mem.1 hk) e1 e2
  exact ⟨gb',blk,cap,k1,k2,by rw [k3]; exact e3,r⟩
 case tup l=>exact h.elim
 all_goals exact h
theorem Bridge.ptrs {g2 g3:Gh} {ks rk:List Nat} (hB:Bridge g2 g3 ks rk):∀ {l:List AV} {cs:List Value},(l.all fun | .ptr b _ _=>ks.contains b | _=>false) = true→TsR g3 l cs→TsR (g2.mix g3 rk) l cs
 | [],[],_,h=>h
 | [],_ :: _,_,h=>h.elim
 | _ :: _,[],_,h=>h.elim
 | a :: l,c :: cs,hk,⟨h1,h2⟩=>by
  simp only [List.all_cons,sA] at hk
  refine ⟨?_,hB.ptrs hk.2 h2⟩
  cases a <;> simp only [sF] at hk
  case ptr b off p=>exact hB.gr (v:=.ptr b off p) hk.1 h1
  all_goals exact hk.1.elim
theorem Bridge.vr {g2 g3:Gh} {ks rk:List Nat} (hB:Bridge g2 g3 ks rk) {v:AV} (hk:v.keysIn ks = true) {c:Value} (h:VR g3 v c):VR (g2.mix g3 rk) v c:=by
 cases v <;> simp only [AV.keysIn,sF] at hk
 case tup l =>
  cases l with
  | nil=>exact znW h
  | cons a l =>
   cases a <;> simp only [AV.keysIn,sF] at hk
   case fn f caps =>
    simp only [sA] at hk
    obtain ⟨arr,e,ht⟩:=h
    refine ⟨arr,e,?_⟩
    generalize arr.toList = cs at ht
    cases cs with
    | nil=>exact ht.elim
    | cons c cs =>
     refine ⟨hB.gr (v:=.fn f caps) (by simp only [AV.keysIn]; exact hk.1) ht.1,?_⟩
     exact hB.ptrs hk.2 ht.2
 case ptr b off p=>exact hB.gr (v:=.ptr b off p) hk h
 case row b w=>exact hB.gr (v:=.row b w) hk h
 case yld b=>exact hB.gr (v:=.yld b) hk h
 case mp b=>exact hB.gr (v:=.mp b) hk h
 case vsl b o n p k=>exact hB.gr (v:=.vsl b o n p k) hk h
 case val T x=>cases T <;> first | exact h | (simp at hk; done)
 case fn f l=>exact hB.gr (v:=.fn f l) hk h
 case mfn f l=>exact hB.gr (v:=.mfn f l) hk h
 all_goals exact h
theorem Bridge.gs {g2 g3:Gh} {ks rk:List Nat} (hB:Bridge g2 g3 ks rk):∀ {l:List Sh} {x:shDen l} {cs:List Value},l.all (Sh.ok ks) = true→GsR g3 (encSh l x) cs→GsR (g2.mix g3 rk) (encSh l x) cs
 | [],_,_,_,h=>h
 | .ty T :: l,x,cs,hk,⟨c1,c2,e,h1,h2⟩=>by
  simp only [List.all_cons,sA] at hk
  exact ⟨c1,c2,e,h1,hB.gs hk.2 h2⟩
 | .cst v :: l,x,cs,hk,⟨c1,c2,e,h1,h2⟩=>by
  simp only [List.all_cons,sA] at hk
  exact ⟨c1,c2,e,hB.gr hk.1 h1,hB.gs hk.2 h2⟩
 | .dyn k :: l,x,cs,hk,⟨c1,c2,e,h1,h2⟩=>by
  simp only [List.all_cons,sA] at hk
  exact ⟨c1,c2,e,hB.gr (zeq hk.1 x.1) h1,hB.gs hk.2 h2⟩
theorem Bridge.vs {g2 g3:Gh} {ks rk:List Nat} (hB:Bridge g2 g3 ks rk):∀ {l:List Sh} {x:shDen l} {cs:List Value},(l.all fun x=>x.ok ks && (match x with | .cst v=>v.okGs | .ty _=>true | .dyn _=>true)) = true→VsR g3 (encV l x) cs →
  VsR (g2.mix g3 rk) (encV l x) cs∧(encV l x).all AV.okGs = true
 | [],_,[],_,_=>⟨trivial,rfl⟩
 | [],_,_ :: _,_,h=>h.elim
 | .ty T :: l,x,c :: cs,hk,⟨h1,h2⟩=>by
  simp only [List.all_cons,sA] at hk
  obtain ⟨k1,k2⟩:=hB.vs hk.2 h2
  have hav:(T.av x.1).okGs = true:=by cases T <;> rfl
  refine ⟨⟨(TV.vr (g:=g2.mix g3 rk) (zng (g:=g3) (VR.vr1 hav h1))).vr',k1⟩,?_⟩
  simp only [encV,List.all_cons,sA]
  exact ⟨hav,k2⟩
 | .ty T :: l,x,[],_,h=>h.elim
 | .cst v :: l,x,c :: cs,hk,⟨h1,h2⟩=>by
  simp only [List.all_cons,sA] at hk
  obtain ⟨k1,k2⟩:=hB.vs hk.2 h2
  refine ⟨⟨hB.vr hk.1.1 h1,k1⟩,?_⟩
  simp only [encV,List.all_cons,sA]
  exact ⟨hk.1.2,k2⟩
 | .cst v :: l,x,[],_,h=>h.elim
 | .dyn k :: l,x,c :: cs,hk,⟨h1,h2⟩=>by
  simp only [List.all_cons,sA] at hk
  obtain ⟨k1,k2⟩:=hB.vs hk.2 h2
  refine ⟨⟨hB.vr (zeq hk.1.1 x.1) h1,k1⟩,?_⟩
  simp only [encV,List.all_cons,sA]
  exact ⟨by cases k <;> rfl,k2⟩
 | .dyn k :: l,x,[],_,h=>h.elim
def BSh.odd:BSh→Bool
 | .loop _ _ _ _=>true
 | .map _ _=>true
 | .fmap _ _=>true
 | .iter _ _=>true
 | _=>false
theorem zbc:∀ {l:List (Nat × BSh)} {x:bxsDen l} {k:Nat} {b:Box},find (zar l x) k = some b→(∃ T fz y,b = .row T fz y∧k∈zaq l) ∨ (∃ sh y,b = .var (encSh sh y)∧(k,BSh.var sh)∈l) ∨ (∃ sh,(k,sh)∈l∧sh.odd = true)
 | [],_,_,_,h=>nomatch h
 | (n,.var gs) :: l,x,k,b,h=>by
  by_cases hn:n = k
  ·subst hn
   simp only [zar,zad,sI] at h
   exact .inr (.inl ⟨gs,x.1,h.symm,by simp⟩)
  ·simp only [zar,zab _ _ hn] at h
   rcases zbc h with ⟨T,fz,y,e,m⟩ | ⟨sh,y,e,m⟩ | ⟨sh,m,e⟩
   ·exact .inl ⟨T,fz,y,e,by simpa [zaq] using m⟩
   ·exact .inr (.inl ⟨sh,y,e,by simp [m]⟩)
   ·exact .inr (.inr ⟨sh,by simp [m],e⟩)
 | (n,.row T fz) :: l,x,k,b,h=>by
  by_cases hn:n = k
  ·subst hn
   simp only [zar,zad,sI] at h
   exact .inl ⟨T,fz,x.1,h.symm,by simp [zaq]⟩
  ·simp only [zar,zab _ _ hn] at h
   rcases zbc h with ⟨T,fz,y,e,m⟩ | ⟨sh,y,e,m⟩ | ⟨sh,m,e⟩
   ·exact .inl ⟨T,fz,y,e,by simp [zaq,m]⟩
   ·exact .inr (.inl ⟨sh,y,e,by simp [m]⟩)
   ·exact .inr (.inr ⟨sh,by simp [m],e⟩)
 | (n,.map S V) :: l,x,k,b,h=>by
  by_cases hn:n = k
  ·subst hn
   exact .inr (.inr ⟨.map S V,by simp,rfl⟩)
  ·simp only [zar,zab _ _ hn] at h
   rcases zbc h with ⟨T,fz,y,e,m⟩ | ⟨sh,y,e,m⟩ | ⟨sh,m,e⟩
   ·exact .inl ⟨T,fz,y,e,by simpa [zaq] using m⟩
   ·exact .inr (.inl ⟨sh,y,e,by simp [m]⟩)
   ·exact .inr (.inr ⟨sh,by simp [m],e⟩)
 | (n,.fmap S V) :: l,x,k,b,h=>by
  by_cases hn:n = k
  ·subst hn
   exact .inr (.inr ⟨.fmap S V,by simp,rfl⟩)
  ·simp only [zar,zab _ _ hn] at h
   rcases zbc h with ⟨T,fz,y,e,m⟩ | ⟨sh,y,e,m⟩ | ⟨sh,m,e⟩
   ·exact .inl ⟨T,fz,y,e,by simpa [zaq] using m⟩
   ·exact .inr (.inl ⟨sh,y,e,by simp [m]⟩)
   ·exact .inr (.inr ⟨sh,by simp [m],e⟩)
 | (n,.iter S V) :: l,x,k,b,h=>by
  by_cases hn:n = k
  ·subst hn
   exact .inr (.inr ⟨.iter S V,by simp,rfl⟩)
  ·simp only [zar,zab _ _ hn] at h
   rcases zbc h with ⟨T,fz,y,e,m⟩ | ⟨sh,y,e,m⟩ | ⟨sh,m,e⟩
   ·exact .inl ⟨T,fz,y,e,by simpa [zaq] using m⟩
   ·exact .inr (.inl ⟨sh,y,e,by simp [m]⟩)
   ·exact .inr (.inr ⟨sh,by simp [m],e⟩)
 | (n,.loop u f i e) :: l,x,k,b,h=>by
  by_cases hn:n = k
  ·subst hn
   exact .inr (.inr ⟨.loop u f i e,by simp,rfl⟩)
  ·simp only [zar,zab _ _ hn] at h
   rcases zbc h with ⟨T,fz,y,e,m⟩ | ⟨sh,y,e,m⟩ | ⟨sh,m,e⟩
   ·exact .inl ⟨T,fz,y,e,by simpa [zaq] using m⟩
   ·exact .inr (.inl ⟨sh,y,e,by simp [m]⟩)
   ·exact .inr (.inr ⟨sh,by simp [m],e⟩)
theorem zaH:∀ {l m:List (Nat × BSh)},kindOk l m = true→(∀ k sh,(k,sh)∈l→sh.odd = false)∧∀ k sh,(k,sh)∈m→sh.odd = false
 | [],[],_=>⟨(fun _ _ h=>nomatch h),(fun _ _ h=>nomatch h)⟩
 | (k,.row _ _) :: l,(j,.row _ _) :: m,h=>by
  simp only [kindOk,sA] at h
  obtain ⟨h1,h2⟩:=zaH h.2
  exact ⟨fun k sh hm=>by rcases List.mem_cons.1 hm with e | hm; (· cases e; rfl); exact h1 _ _ hm,fun k sh hm=>by rcases List.mem_cons.1 hm with e | hm; (· cases e; rfl); exact h2 _ _ hm⟩
 | (k,.var _) :: l,(j,.var _) :: m,h=>by
  simp only [kindOk,sA] at h
  obtain ⟨h1,h2⟩:=zaH h.2
  exact ⟨fun k sh hm=>by rcases List.mem_cons.1 hm with e | hm; (· cases e; rfl); exact h1 _ _ hm,fun k sh hm=>by rcases List.mem_cons.1 hm with e | hm; (· cases e; rfl); exact h2 _ _ hm⟩
 | [],_ :: _,h=>by simp [kindOk] at h
 | (_,.row _ _) :: _,[],h=>by simp [kindOk] at h
 | (_,.var _) :: _,[],h=>by simp [kindOk] at h
 | (_,.row _ _) :: _,(_,.var _) :: _,h=>by simp [kindOk] at h
 | (_,.var _) :: _,(_,.row _ _) :: _,h=>by simp [kindOk] at h
 | (_,.loop ..) :: _,_,h=>by simp [kindOk] at h
 | (_,.map ..) :: _,_,h=>by simp [kindOk] at h
 | (_,.row _ _) :: _,(_,.loop ..) :: _,h=>by simp [kindOk] at h
 | (_,.var _) :: _,(_,.loop ..) :: _,h=>by simp [kindOk] at h
 | (_,.row _ _) :: _,(_,.map ..) :: _,h=>by simp [kindOk] at h
 | (_,.var _) :: _,(_,.map ..) :: _,h=>by simp [kindOk] at h
theorem zbi:∀ {l:List (Nat × BSh)} {x:bxsDen l} {k:Nat},idsOk (l.map (·.1)) = true→k∈zaq l→∃ T fz y,find (zar l x) k = some (.row T fz y)
 | (n,.row T fz) :: l,x,k,hi,h=>by
  simp only [List.map_cons,idsOk,sA,Bool.not_eq_true'] at hi
  by_cases hn:n = k
  ·subst hn; exact ⟨T,fz,x.1,by simp only [zar,zad]⟩
  ·simp only [zaq,List.mem_cons] at h
   obtain ⟨T',fz',y,e⟩:=zbi (x:=x.2) hi.2 (h.resolve_left (Ne.symm hn))
   exact ⟨T',fz',y,by simp only [zar,zab _ _ hn]; exact e⟩
 | (n,.var gs) :: l,x,k,hi,h=>by
  simp only [List.map_cons,idsOk,sA,Bool.not_eq_true'] at hi
  simp only [zaq] at h
  have hn:n ≠ k:=fun e=>by
   subst e
   rw [List.contains_iff_mem.2 (zaL h)] at hi
   cases hi.1
  obtain ⟨T',fz',y,e⟩:=zbi (x:=x.2) hi.2 h
  exact ⟨T',fz',y,by simp only [zar,zab _ _ hn]; exact e⟩
 | (n,.loop u f i e0) :: l,x,k,hi,h=>by
  simp only [List.map_cons,idsOk,sA,Bool.not_eq_true'] at hi
  simp only [zaq] at h
  have hn:n ≠ k:=fun e=>by
   subst e
   rw [List.contains_iff_mem.2 (zaL h)] at hi
   cases hi.1
  obtain ⟨T',fz',y,e⟩:=zbi (x:=x.2) hi.2 h
  exact ⟨T',fz',y,by simp only [zar,zab _ _ hn]; exact e⟩
 | (n,.map S V) :: l,x,k,hi,h=>by
  simp only [List.map_cons,idsOk,sA,Bool.not_eq_true'] at hi
  simp only [zaq] at h
  have hn:n ≠ k:=fun e=>by
   subst e
   rw [List.contains_iff_mem.2 (zaL h)] at hi
   cases hi.1
  obtain ⟨T',fz',y,e⟩:=zbi (x:=x.2) hi.2 h
  exact ⟨T',fz',y,by simp only [zar,zab _ _ hn]; exact e⟩
 | (n,.fmap S V) :: l,x,k,hi,h=>by
  simp only [List.map_cons,idsOk,sA,Bool.not_eq_true'] at hi
  simp only [zaq] at h
  have hn:n ≠ k:=fun e=>by
   subst e
   rw [List.contains_iff_mem.2 (zaL h)] at hi
   cases hi.1
  obtain ⟨T',fz',y,e⟩:=zbi (x:=x.2) hi.2 h
  exact ⟨T',fz',y,by simp only [zar,zab _ _ hn]; exact e⟩
 | (n,.iter S V) :: l,x,k,hi,h=>by
  simp only [List.map_cons,idsOk,sA,Bool.not_eq_true'] at hi
  simp only [zaq] at h
  have hn:n ≠ k:=fun e=>by
   subst e
   rw [List.contains_iff_mem.2 (zaL h)] at hi
   cases hi.1
  obtain ⟨T',fz',y,e⟩:=zbi (x:=x.2) hi.2 h
  exact ⟨T',fz',y,by simp only [zar,zab _ _ hn]; exact e⟩
theorem zc6:∀ {l m:List (Nat × BSh)},kindOk l m = true→l.map (·.1) = m.map (·.1)∧zaq l = zaq m
 | [],[],_=>⟨rfl,rfl⟩
 | [],_ :: _,h=>by simp [kindOk] at h
 | (_,.row _ _) :: _,[],h=>by simp [kindOk] at h
 | (_,.var _) :: _,[],h=>by simp [kindOk] at h
 | (k,.row _ _) :: l,(j,.row _ _) :: m,h=>by
  simp only [kindOk,sA] at h
  obtain ⟨h1,h2⟩:=zc6 h.2
  have:=sB h.1
  simp [zaq,h1,h2,this]
 | (k,.var _) :: l,(j,.var _) :: m,h=>by
  simp only [kindOk,sA] at h
  obtain ⟨h1,h2⟩:=zc6 h.2
  have:=sB h.1
  simp [zaq,h1,h2,this]
 | (_,.row _ _) :: _,(_,.var _) :: _,h=>by simp [kindOk] at h
 | (_,.var _) :: _,(_,.row _ _) :: _,h=>by simp [kindOk] at h
 | (_,.loop ..) :: _,_,h=>by simp [kindOk] at h
 | (_,.map ..) :: _,_,h=>by simp [kindOk] at h
 | (_,.row _ _) :: _,(_,.loop ..) :: _,h=>by simp [kindOk] at h
 | (_,.var _) :: _,(_,.loop ..) :: _,h=>by simp [kindOk] at h
 | (_,.row _ _) :: _,(_,.map ..) :: _,h=>by simp [kindOk] at h
 | (_,.var _) :: _,(_,.map ..) :: _,h=>by simp [kindOk] at h
theorem znm {R:Type} {f:FuncId} {c:CSpec} (hc:zgM P C f c) (hok:c.ok = true) {g:Gh} {s:St} {tm:Array Value} {tms:List (Array Value)} {w:World} (hs:StR g s tm tms w) (hG:zay C g.fz) {args:List AV} {K:AV→St→Option R} {r:R}
  (h:callS c args s K = some r) {vals:Array Value} (hv:VsR g args vals.toList):zd1 P f vals g tm tms w K r:=by
 simp only [CSpec.ok,sA] at hok
 obtain ⟨⟨⟨⟨⟨a1,a2⟩,a3⟩,a4⟩,a5⟩,a6⟩:=hok
 obtain ⟨hkeys,hrows⟩:=zc6 a5
 unfold callS at h
 split at h
 ·rename_i s1 hth
  have hs0:StR g { env:=params 0 args,stk:=s.env :: s.stk,bxs:=s.bxs } vals (tm :: tms) w:=by
   refine ⟨fun n v e=>?_,⟨hs.env,hs.stk⟩,hs.bxs,hs.fz⟩
   obtain ⟨i,e1,cv,h1,h2⟩:=zfR hv n v e
   have:i = n:=by omega
   subst this
   rw [Array.getD_eq_getD_getElem?,← Array.getElem?_toList,h1]
   exact h2
  obtain ⟨g1,hs1,t1⟩:=zeT hs0 hth
  simp only at h
  obtain ⟨fz2,hs2,t2⟩:=StR.frzL (zde s1.env c.args++zbs s1.bxs c.ins) hs1
  generalize hbx:frzL s1.bxs (zde s1.env c.args++zbs s1.bxs c.ins) = bx at h hs2
  obtain ⟨g2,hg2⟩:∃ g2:Gh,g2 = ⟨fz2,g1.bx⟩:=⟨_,rfl⟩
  rw [← hg2] at hs2 t2
  obtain ⟨xa,h1,he⟩:=zct hs2.bxs.w hs2.fz hs2.env a1 h
  obtain ⟨xb,h2,hb⟩:=zbN hs2.fz hs2.bxs.w a2 h1
  rw [Option.bind_eq_some_iff] at h2
  obtain ⟨y,hy,hK⟩:=h2
  obtain ⟨ks,hks⟩:∃ ks,ks = c.ins.map (·.1):=⟨_,rfl⟩
  obtain ⟨rk,hrk⟩:∃ rk,rk = zaq c.ins:=⟨_,rfl⟩
  rw [← hks] at he hb a1 a2 a3 a4 a6
  have kin:∀ {k b},find (zar c.ins xb) k = some b→k∈ks:=fun e=>by rw [hks]; exact zaG e
  have hb3:BxR (g2.keep ks) (zar c.ins xb) w:=by
   refine ⟨?_,?_,?_⟩
   ·intro k b e
    obtain ⟨gb,e1,e2⟩:=hb k b e
    exact ⟨gb,by rw [zbS _ (List.contains_iff_mem.2 (kin e))]; exact e1,e2⟩
   ·intro k gb e
    simp only [Gh.keep] at e
    split at e
    ·rename_i hk
     exact zaQ (by rw [← hks]; exact hk)
    ·cases e
   ·intro k j a b blk hne e1 e2
    simp only [Gh.keep] at e1 e2
    split at e1
    ·split at e2
     ·exact hs2.bxs.sep k j a b blk hne e1 e2
     ·cases e2
    ·cases e1
  have hs3:StR (g2.keep ks) { env:=zdd c.args xa,stk:=[],bxs:=zar c.ins xb } vals [] w:=⟨he,trivial,hb3,hs2.fz⟩
  have hfz2:∀ b o v,g.fz b o = some v→g2.fz b o = some v:=fun b o v e=>t2.fz b o v (t1.fz b o v e)
  refine Calls.mono (hc (g2.keep ks) w vals xa xb y (hG.mono hfz2) hs3 hy) ?_
  rintro e w' ⟨cs,g3,rfl,hv3,hb4,hf3,t3,hvar⟩
  cases hst:s1.stk with
  | nil=>rw [hst] at hK; cases hK
  | cons env stk =>
   rw [hst] at hK
   simp only at hK
   rw [← hrk] at hK
   have hst2:=hs2.stk
   simp only [hst] at hst2
   have hfz3:∀ b o v,g2.fz b o = some v→g3.fz b o = some v:=t3.fz
   have hnd:rk.Nodup:=by rw [hrk]; exact zbk (by rw [← hks]; exact a6)
   have inrow:∀ k∈rk,∀ gb,g2.bx k = some gb→gb.isRow = true:=by
    intro k hk gb e
    obtain ⟨T,fz,l,hf⟩:=zbi (l:=c.ins) (x:=xb) (by rw [← hks]; exact a6) (by rw [← hrk]; exact hk)
    obtain ⟨gb',e1,e2⟩:=hb k _ hf
    rw [e] at e1
    cases e1
    exact e2.1
   have rkks:∀ k∈rk,k∈ks:=fun k hk=>by rw [hks]; exact zaL (by rw [← hrk]; exact hk)
   have invar:∀ k∈ks,k ∉ rk→∃ gb,g2.bx k = some gb∧gb.isRow = false∧gb.own = true∧∃ gb3,g3.bx k = some gb3∧gb3.isRow = false∧gb3.blk = gb.blk:=by
    intro k hk hkr
    have hsome:=zaQ (l:=c.ins) (x:=xb) (k:=k) (by rw [← hks]; exact hk)
    obtain ⟨b,hbk⟩:=Option.isSome_iff_exists.1 hsome
    rcases zbc hbk with ⟨T,fz,l,_,m⟩ | ⟨sh,l,rfl,_⟩ | ⟨sh,m,modd⟩
    rotate_left 2
    ·exact absurd modd (by rw [(zaH a5).1 _ _ m]; decide)
    ·exact absurd (by rw [hrk]; exact m) hkr
    ·obtain ⟨gb,e1,e2⟩:=hb k _ hbk
     obtain ⟨k1,k2,_⟩:=e2
     obtain ⟨gb3,e3,e4,e5⟩:=hvar k gb (by rw [zbS _ (List.contains_iff_mem.2 hk)]; exact e1) k1
     exact ⟨gb,e1,k1,k2,gb3,e3,e4,e5⟩
   have hB:Bridge g2 g3 ks rk:=⟨fun k hk hkr gb3 e=>by
    obtain ⟨gb,e1,e2,_,gb3',e3,e4,e5⟩:=invar k hk hkr
    rw [e] at e3
    cases e3
    exact ⟨e4,gb,e1,e2,e5.symm⟩⟩
   have hx0:ExtBut none g2 (g2.mix g3 []):=⟨hfz3,fun k gb _ e=>by simp only [Gh.mix]; rw [if_neg (by simp)]; exact e,fun _ _ h _=>nomatch h⟩
   have hmix:∀ k,(g2.mix g3 (rk.reverse++[])).bx k = (g2.mix g3 rk).bx k:=fun k=>by simp only [Gh.mix,List.append_nil,List.mem_reverse]
   have hg4:g2.mix g3 (rk.reverse++[]) = g2.mix g3 rk:=by
    have:(g2.mix g3 (rk.reverse++[])).bx = (g2.mix g3 rk).bx:=funext hmix
    unfold Gh.mix at this ⊢
    simp only at this
    rw [this]
   obtain ⟨henv,hstk⟩:=zfS (g:=g2) (h:=g3) rk [] (s:={ env:=env,stk:=stk,bxs:=bx }) inrow hnd (fun _ _=>by simp) (hst2.1.grow hx0) (hst2.2.grow hx0)
   rw [hg4] at henv hstk
   obtain ⟨hvs,hall⟩:=hB.vs a3 hv3
   have notown:∀ k gb blk,k ∉ ks→g2.bx k = some gb→gb.blk = some blk→gb.own = true→¬ owned (g2.keep ks) blk:=by
    rintro k gb blk hk e1 e2 e3 ⟨j,gj,f1,f2,f3⟩
    simp only [Gh.keep] at f1
    split at f1
    ·rename_i hj
     exact hs2.bxs.sep j k gj gb blk (fun e=>hk (by rw [← e]; exact hj)) f1 e1 f2 f3 e2 e3
    ·cases f1
   have hsize:∀ k gb blk,g2.bx k = some gb→gb.blk = some blk→gb.own = true→blk < w.heap.size:=fun k gb blk e1 e2 e3=>hs2.bxs.lt ⟨k,gb,e1,e2,e3⟩
   refine ⟨_,_,_,g2.mix g3 rk,rfl,hK,zmf hvs hall,⟨henv,hstk,⟨?_,?_,?_⟩,hf3⟩,t1.trans (t2.trans ⟨t3.os,t3.tape,t3.output,t3.size,hfz3,?_,?_,?_⟩)⟩
   ·-- the boxes
    intro k b e
    simp only [zd2] at e
    split at e
    ·rename_i x hx
     cases e
     have hkk:k∈ks:=by rw [hks,hkeys]; exact zaG hx
     obtain ⟨gb3,e1,e2⟩:=hb4.box k _ hx
     rcases zbc hx with ⟨T,fz,l,rfl,m⟩ | ⟨sh,l,rfl,m⟩ | ⟨sh,m,modd⟩
     rotate_left 2
     ·exact absurd modd (by rw [(zaH a5).2 _ _ m]; decide)
     ·have hkr:k∈rk:=by rw [hrk,hrows]; exact m
      exact ⟨gb3,by simp only [Gh.mix]; rw [if_pos hkr]; exact e1,zcr rfl e2⟩
     ·have hkr:k ∉ rk:=by
       intro hkr
       rw [hrk,hrows] at hkr
       obtain ⟨T,fz,l',hf⟩:=zbi (l:=c.outs) (x:=y.2) (by rw [← hkeys,← hks]; exact a6) hkr
       rw [hx] at hf
       cases hf
      obtain ⟨gb,f1,f2,f3,gb3',f4,f5,f6⟩:=invar k hkk hkr
      rw [e1] at f4
      cases f4
      obtain ⟨_,_,blk,cells,p3,p4,p5,p6⟩:=e2
      refine ⟨gb,by simp only [Gh.mix]; rw [if_neg hkr]; exact f1,f2,f3,blk,cells,by rw [← f6]; exact p3,p4,?_,p6⟩
      exact hB.gs (List.all_eq_true.1 a4 _ m) p5
    ·rename_i hx
     have hkk:k ∉ ks:=by
      intro hk
      have:=zaQ (l:=c.outs) (x:=y.2) (k:=k) (by rw [← hkeys,← hks]; exact hk)
      rw [hx] at this
      cases this
     have hkr:k ∉ rk:=fun hk=>hkk (rkks k hk)
     have hbs:(find bx k).isSome = true:=by
      have:=zc5 rk (s:={ env:=env,stk:=stk,bxs:=bx }) (j:=k)
      rw [e] at this
      exact this.symm
     obtain ⟨b0',hb0'⟩:=Option.isSome_iff_exists.1 hbs
     obtain ⟨gb,e1,e2⟩:=hs2.bxs.box k b0' hb0'
     obtain ⟨b0,hb0,himp⟩:=ze5 (g:=g2) (h:=g3) (w:=w') (gb:=gb) rk [] (s:={ env:=env,stk:=stk,bxs:=bx }) inrow hnd (fun _ _=>by simp) e
     simp only [hb0',sI] at hb0
     subst hb0
     refine ⟨gb,by simp only [Gh.mix]; rw [if_neg hkr]; exact e1,?_⟩
     rw [← hg4]
     refine himp (e2.ext hx0 (fun blk p1 p2=>?_) (fun blk p1 p2 o p3=>?_) ?_)
     ·exact t3.block blk (hsize k gb blk e1 p1 p2) (notown k gb blk hkk e1 p1 p2)
     ·cases hz:(g2.mix g3 []).fz blk o with
      | none=>rfl
      | some v =>
       have hz':g3.fz blk o = some v:=hz
       rcases t3.fzNew blk o (by rw [hz']; simp) with q | q | q
       ·exact absurd p3 q
       ·have:=hsize k gb blk e1 p1 p2; omega
       ·exact (notown k gb blk hkk e1 p1 p2 q).elim
     ·exact zaK _
   ·intro k gb e
    simp only [zd2]
    by_cases hkk:k∈ks
    ·have:=zaQ (l:=c.outs) (x:=y.2) (k:=k) (by rw [← hkeys,← hks]; exact hkk)
     obtain ⟨x,hx⟩:=Option.isSome_iff_exists.1 this
     rw [hx]
     rfl
    ·have hkr:k ∉ rk:=fun hk=>hkk (rkks k hk)
     simp only [Gh.mix] at e
     rw [if_neg hkr] at e
     have h5:=hs2.bxs.dom k gb e
     split
     ·rfl
     ·rw [zc5]; exact h5
   ·-- apart
    have cross:∀ k j a b blk,k∈rk→j ∉ rk→g3.bx k = some a→g2.bx j = some b→a.blk = some blk→a.own = true→b.blk = some blk→b.own = true→False:=by
     intro k j a b blk hk hj e1 e2 p1 p2 p3 p4
     by_cases hjk:j∈ks
     ·obtain ⟨gb,f1,f2,f3,gb3,f4,f5,f6⟩:=invar j hjk hj
      rw [e2] at f1
      cases f1
      obtain ⟨x,hx⟩:=Option.isSome_iff_exists.1 (hb4.dom j gb3 f4)
      obtain ⟨gb3',f7,f8⟩:=hb4.box j x hx
      rw [f4] at f7
      cases f7
      have hown:gb3.own = true:=by
       rcases zbc hx with ⟨T,fz,l,rfl,m⟩ | ⟨sh,l,rfl,m⟩ | ⟨sh,m,modd⟩
       rotate_left 2
       ·exact absurd modd (by rw [(zaH a5).2 _ _ m]; decide)
       ·exact absurd (by rw [hrk,hrows]; exact m) hj
       ·exact f8.2.1
      exact hb4.sep k j a gb3 blk (fun e=>hj (by rw [← e]; exact hk)) e1 f4 p1 p2 (by rw [f6]; exact p3) hown
     ·rcases t3.own blk ⟨k,a,e1,p1,p2⟩ with q | q
      ·exact notown j b blk hjk e2 p3 p4 q
      ·have:=hsize j b blk e2 p3 p4
       omega
    intro k j a b blk hne e1 e2 p1 p2 p3 p4
    simp only [Gh.mix] at e1 e2
    by_cases hk:k∈rk
    ·rw [if_pos hk] at e1
     by_cases hj:j∈rk
     ·rw [if_pos hj] at e2
      exact hb4.sep k j a b blk hne e1 e2 p1 p2 p3 p4
     ·rw [if_neg hj] at e2
      exact cross k j a b blk hk hj e1 e2 p1 p2 p3 p4
    ·rw [if_neg hk] at e1
     by_cases hj:j∈rk
     ·rw [if_pos hj] at e2
      exact cross j k b a blk hj hk e2 e1 p3 p4 p1 p2
     ·rw [if_neg hj] at e2
      exact hs2.bxs.sep k j a b blk hne e1 e2 p1 p2 p3 p4
   ·intro b o e
    rcases t3.fzNew b o e with q | q | ⟨k,gb,q1,q2,q3⟩
    ·exact .inl q
    ·exact .inr (.inl q)
    ·simp only [Gh.keep] at q1
     split at q1
     ·exact .inr (.inr ⟨k,gb,q1,q2,q3⟩)
     ·cases q1
   ·rintro b ⟨k,gb,e1,e2,e3⟩
    simp only [Gh.mix] at e1
    by_cases hk:k∈rk
    ·rw [if_pos hk] at e1
     rcases t3.own b ⟨k,gb,e1,e2,e3⟩ with ⟨j,gj,q1,q2,q3⟩ | q
     ·simp only [Gh.keep] at q1
      split at q1
      ·exact .inl ⟨j,gj,q1,q2,q3⟩
      ·cases q1
     ·exact .inr q
    ·rw [if_neg hk] at e1
     exact .inl ⟨k,gb,e1,e2,e3⟩
   ·intro b hb' hno
    refine t3.block b hb' (fun ⟨k,gb,q1,q2,q3⟩=>hno ?_)
    simp only [Gh.keep] at q1
    split at q1
    ·exact ⟨k,gb,q1,q2,q3⟩
    ·cases q1
 ·cases h
def InOK (P:Program) (C:Cfg) (f:FuncId) (p:ISpec):Prop :=
 ∀ (g:Gh) (s:St) (tm:Array Value) (tms:List (Array Value)) (w:World) (b:Nat) (l y:List p.T.den) (vals:Array Value),StR g s tm tms w→zay C g.fz →
  find s.bxs b = some (.row p.T false l)→p.fn l = some y→VsR g (.row b .whole :: p.rest) vals.toList →
  Calls P f vals w fun e w'=>∃ g',e = .returned (.tuple #[])∧StR g' { s with bxs:=setB s.bxs b (.row p.T false y) } tm tms w'∧Tr g w g' w'
theorem znn {R:Type} {f:FuncId} {p:ISpec} (hp:InOK P C f p) {g:Gh} {s:St} {tm:Array Value} {tms:List (Array Value)} {w:World} (hs:StR g s tm tms w) (hG:zay C g.fz) {args:List AV} {K:AV→St→Option R} {r:R}
  (h:callI p args s K = some r) {vals:Array Value} (hv:VsR g args vals.toList):zd1 P f vals g tm tms w K r:=by
 unfold callI at h
 split at h
 ·rename_i b rest
  cases hsm:AV.same (.tup rest) (.tup p.rest) with
  | false=>rw [hsm] at h; cases h
  | true =>
   rw [hsm,cond_true] at h
   have he:=same_eq hsm
   simp only [AV.tup.injEq] at he
   subst he
   split at h
   ·rename_i T l hb
    split at h
    ·rename_i hT
     rw [Option.bind_eq_some_iff] at h
     obtain ⟨y,hy,hK⟩:=h
     obtain ⟨T',rest',fn⟩:=p
     simp only at hT
     subst hT
     refine Calls.mono (hp g s tm tms w b l y vals hs hG hb hy hv) ?_
     rintro e w' ⟨g',rfl,h1,h2⟩
     exact ⟨_,_,_,g',rfl,hK,⟨#[],rfl,trivial⟩,h1,h2⟩
    ·cases h
   ·cases h
 ·cases h
end
end Go.V
namespace Go.V
variable [Codes]
inductive Wide:Fence→Prop where
 | base:Wide Fence.wide
 | round (l:Nat):Wide (Fence.wide.inRound l)
theorem Wide.fn {F:Fence} (h:Wide F) (f:FuncId):F.fn f:=by cases h <;> exact trivial
theorem Wide.depth {F:Fence} (h:Wide F):F.depth = none:=by cases h <;> rfl
theorem Wide.deep {F:Fence} (h:Wide F) (n:Nat):F.depth.isSome = true→1≤n:=fun e=>by rw [h.depth] at e; simp at e
theorem Wide.inRound {F:Fence} (h:Wide F) (l:Nat):Wide (F.inRound l):=by cases h <;> exact .round l
theorem Wide.calls {F:Fence} (h:Wide F) {n:Nat} {P:Program} {f:FuncId} {args:Array Value} {w:World} {R:Ending→World→Prop}:CallsIn F n P f args w R ↔ Calls P f args w R:=by
 cases h with
 | base=>exact callsIn_wide
 | round l=>exact ⟨fun h=>callsIn_wide.1 (CallsIn.outOfRound h),fun h=>CallsIn.inRound l (callsIn_wide.2 h)⟩
theorem za0 {F:Fence} (hW:Wide F) {n:Nat} {P:Program} {o:Oper} {a:Act} {w:World} {next:Act→World→Prop} {Q:Exit→Act→World→Prop} (hnd:∀ c,o.op ≠ .defer c)
  (h:o.uponIn F n P a next Q ((execOp a.eval o).run P w)):o.wpIn F n P a w next Q:=by
 refine ⟨fun f _=>hW.fn f,?_⟩
 rw [Oper.semAt_eq _ _ _ hnd]
 exact h
theorem zbb {C:Cfg} {base:Nat} {o:Oper} {s:St} {x:Bool × AV × Eff} (h:execA C base o s = some x):∀ c,o.op ≠ .defer c:=by
 intro c hc
 unfold execA at h
 rw [hc] at h
 cases h
end Go.V
namespace Go.V
variable [Codes]
def zaA (P : Program) (f : FuncId) : Prop := ∃ fn, P.funcs[f]? = some fn ∧ (fn.name == "runtime.NumGoroutine") = false ∧ fn.body.isNone = false
theorem zca {P:Program} {f:FuncId} (h:zaA P f) (args:Array Value) (w:World):(callFunc f args).run P w = .ok (.enter f args) w:=by
 obtain ⟨fn,h1,h2,h3⟩:=h
 have h2' : ¬ fn.name = "runtime.NumGoroutine" := by simpa using h2
 have h3':¬ fn.body = none:=by intro he; rw [he] at h3; simp at h3
 simp [callFunc,h1,h2',h3']
def zan (E:Env0) (d f base:Nat) (c:Code) (l:LSpec):Prop :=
 l.ok = true∧∃ step:Nat→l.head.den→Option (outDen l.outs),(∀ x o,l.fn x = some o→∃ n,step n x = some o)∧(∀ x,step 0 x = none) ∧
  ∀ n x o,step (n + 1) x = some o→runB E d f base c l (step n) x = some o
structure EnvOK (P:Program) (E:Env0):Prop where
 mixed:P.follows .mixedOrders = true
 cfg:CfgOK E.C P
 pure:∀ f p,find E.P f = some p→zbh P E.C f p∧zaA P f
 fresh:∀ f p,find E.R f = some p→zhA P E.C f p∧zaA P f
 maps:∀ f p,find E.M f = some p→MapOK P E.C f p∧zaA P f
 calls:∀ f c,find E.S f = some c→zgM P E.C f c∧c.ok = true∧zaA P f
 inpl:∀ f p,find E.I f = some p→InOK P E.C f p∧zaA P f
 func:∀ f fn,find E.F f = some fn→P.funcs[f]? = some fn∧funOk (E.totOf f) fn = true
 codes:∀ f fn c,find E.F f = some fn→fn.body = some c→∀ id,Codes.cd f id = find (zal fn.ntmps c) id
 loop:∀ d base f fn c b l,find E.F f = some fn→fn.body = some c→b∈zaz c→findL E.L ⟨d,base,f,zas b⟩ = some l→zan E d f base b l
section
variable {P:Program} {E:Env0} {R:Type}
def PV.val:PV→Value
 | .int k n=>.int k n
 | .emp=>.agg #[]
def Pan.entry (p:Pan):PanicEntry:={ v:=.iface p.t p.v.val,recovered:=false }
def zhB (P:Program) (f:FuncId) (vals:Array Value) (g:Gh) (tm:Array Value) (tms:List (Array Value)) (w:World) (K:AV→St→Option R) (KP:Pan→St→Option R) (r:R):Prop :=
 Calls P f vals w fun e w'=>(∃ v av s' g',e = .returned v∧K av s' = some r∧VR g' av v∧StR g' s' tm tms w'∧Tr g w g' w') ∨
  (∃ p s' g',e = .panicked [Pan.entry p]∧KP p s' = some r∧StR g' s' tm tms w'∧Tr g w g' w')
theorem zd1.p {f:FuncId} {vals:Array Value} {g:Gh} {tm:Array Value} {tms:List (Array Value)} {w:World} {K:AV→St→Option R} {KP:Pan→St→Option R} {r:R}
  (h:zd1 P f vals g tm tms w K r):zhB P f vals g tm tms w K KP r:=Calls.mono h fun _ _ h=>.inl h
theorem zno {g:Gh} {v:AV} {c:Value} {p:Pan} (h:panOf v = some p) (hv:VR g v c):c = .iface p.t p.v.val:=by
 unfold panOf at h
 split at h
 ·simp only [sI] at h
  subst h
  obtain ⟨x,e1,e2⟩:=hv
  simp only [sC,and_true] at e1
  rw [e1,e2]
  rfl
 ·simp only [sI] at h
  subst h
  obtain ⟨x,e1,e2⟩:=hv
  simp only [sC,and_true] at e1
  rw [e1,e2]
  rfl
 ·cases h
def zjv (d:Deferred):Option (Array Value) :=
 match d.target with
 | .fn fv cap=>some #[.tuple (#[.func fv #[] cap]++d.args)]
 | _=>none
def dfs:List Deferred→List (Array Value)
 | []=>[]
 | d :: l=>match zjv d with
  | some a=>a :: dfs l
  | none=>dfs l
def DsTo (o:Oper) (ds ds':List Deferred):Prop:=ds' = ds ∨ (zbO o = false∧∃ f cap args,ds' = { target:=.fn (.func f) cap,args:=args } :: ds)
structure InlOK (P:Program) (E:Env0) (inl:Nat→Callee→List AV→St→(AV→St→Option R)→(Pan→St→Option R)→Option R):Prop where
 fn:∀ base f args s K KP r,inl base (.fn f) args s K KP = some r→zaA P f∧∀ g tm tms w (vals:Array Value),StR g s tm tms w→zay E.C g.fz→VsR g args vals.toList→zhB P f vals g tm tms w K KP r
 yld:∀ base b args s K KP r,inl base (.yld b) args s K KP = some r→∀ g tm tms w (vals:Array Value) gb l,StR g s tm tms w→zay E.C g.fz→VsR g args vals.toList→g.bx b = some gb→gb.blk = some l →
  ∃ f tmps assign body,(Instr.yield l vals).run P w = .ok (.round l f tmps assign body) w∧∀ (F:Fence) (n:Nat),Wide F →
   RoundIn F n P l f tmps assign body w fun e w'=>∃ v av s' g',e = .returned v∧K av s' = some r∧VR g' av v∧StR g' s' tm tms w'∧Tr g w g' w'
theorem InlOK.shift {P:Program} {E:Env0} {inl:Nat→Callee→List AV→St→(AV→St→Option R)→(Pan→St→Option R)→Option R} (h:InlOK P E inl) (k:Nat):InlOK P E (fun b=>inl (b + k)) :=
 ⟨fun base=>h.fn (base + k),fun base=>h.yld (base + k)⟩
theorem VsR.append {g:Gh}:∀ {l m:List AV} {a b:List Value},VsR g l a→VsR g m b→VsR g (l++m) (a++b)
 | [],_,[],_,_,h=>h
 | _ :: _,_,_ :: _,_,⟨h1,h2⟩,h=>⟨h1,h2.append h⟩
 | [],_,_ :: _,_,h,_=>h.elim
 | _ :: _,_,[],_,h,_=>h.elim
theorem CapsR.vsR {g:Gh}:∀ {l:List AV} {vs:List Value},CapsR g l vs→VsR g l vs
 | [],[],_=>trivial
 | a :: l,v :: vs,⟨h1,h2⟩=>by
  refine ⟨?_,h2.vsR⟩
  unfold CapR at h1
  split at h1
  ·obtain ⟨gb,blk,e1,e2,e3,rfl⟩:=h1
   exact ⟨gb,blk,e1,e2,e3,(fun _ h=>nomatch h),rfl⟩
  ·obtain ⟨gb,blk,e1,e2,e3,rfl⟩:=h1
   exact ⟨gb,blk,e1,e2,e3,rfl⟩
  ·exact ⟨#[],h1,rfl⟩
  ·exact h1.elim
 | [],_ :: _,h=>h.elim
 | _ :: _,[],h=>h.elim
theorem zmg {C:Cfg} (hC:CfgOK C P) {g:Gh} {s:St} {tm:Array Value} {tms:List (Array Value)} {w:World} (hs:StR g s tm tms w) (hG:zay C g.fz) {t:Nat} {m k:Operand} {u:Unit} (h:zli C s t m k = some u) (ok:Bool) (d:List Deferred) :
  ∃ a x,Act.eval ⟨tm,d⟩ m = a∧Act.eval ⟨tm,d⟩ k = x∧(Instr.lookup t (Act.eval ⟨tm,d⟩ m) (Act.eval ⟨tm,d⟩ k) ok).run P w = .ok (if ok = true then .tuple #[.slice none 0 0,.bool false] else .slice none 0 0) w:=by
 refine ⟨_,_,rfl,rfl,?_⟩
 unfold zli at h
 split at h
 ·rename_i kt e b kv hu hm hk
  split at h
  ·rename_i K V l hz hb
   split at h
   ·rename_i hc
    split at h
    ·rename_i kx hkx
     cases hh:zaY K V l kx with
     | true=>rw [hh] at h; cases h
     | false =>
      have hmt:=hC.map t _ _ hu
      obtain ⟨gb,r,es,ck,e0,e1,e3,e2,q2,q4,q5,q6⟩:=zlS hs hb (ev_ok hs hG hm d)
      have hxk:=zd0 hs.bxs.w hs.fz hkx (ev_ok hs hG hk d)
      obtain ⟨i,z,hi,_,_,hiz,hg⟩:=hC.zero e _ hz
      have hz0:z = .slice none 0 0:=by
       have h1:=hg g
       have hna:=hC.zone e i z hc.2.2.2.1 hc.2.2.2.2 hi hiz
       have hzc:z.cells = #[z]:=by cases z <;> first | rfl | exact absurd rfl (hna _)
       rw [hzc] at h1
       obtain ⟨c1,c2,h2,h3,h4⟩:=h1
       have h4':c2 = []:=h4
       have h3':c1 = [.slice none 0 0]:=h3
       rw [h3',h4'] at h2
       simpa using h2
      subst hz0
      obtain ⟨c1,c2,c3⟩:=key_ok hC (w:=w) hc.1 hc.2.1 hc.2.2.1 hxk q5
      rcases c3 with ⟨f1,f2,f3⟩ | ⟨f1,_⟩
      ·rw [e0]
       cases ok <;> simp [Instr.lookup,run_underlying hmt,MapKept.run_getObj_map q4,c1,f2,zeroValue,typeInfo,hi,hiz,Result.andThen]
      ·rw [hh] at f1; cases f1
    ·cases h
   ·cases h
  ·cases h
 ·cases h
theorem zkZ {g:Gh} {s:St} {tm:Array Value} {tms:List (Array Value)} {w:World} (hs:StR g s tm tms w) {a:AV} (hk:zfv s.bxs a = true) {c:Value} (hv:VR g a c):∃ ad n k,c = .slice (some ad) n k:=by
 unfold zfv at hk
 split at hk
 ·rename_i T x l
  have hv':GR g (.full T (x :: l)) [c]:=hv
  rcases hv' with ⟨h,_⟩ | ⟨blk,off,cs',e,_⟩
  ·cases h
  ·simp only [sC,and_true] at e
   exact ⟨_,_,_,e⟩
 ·rename_i T x l
  obtain ⟨v,e,h1⟩:=(show GR g (.val (.sl T) (x :: l)) [c] from hv)
  simp only [sC,and_true] at e
  subst e
  rcases h1 with ⟨h,_⟩ | ⟨blk,off,cap,cs,e,_⟩
  ·cases h
  ·exact ⟨_,_,_,e⟩
 ·obtain ⟨gb,blk,cap,_,_,_,_,_,ad,e,_⟩:=(show GR g (.vsl _ _ _ _ _) [c] from hv)
  simp only [sC,and_true] at e
  exact ⟨_,_,_,e⟩
 ·rename_i b w'
  obtain ⟨gb,v,e1,e2,e3,hw⟩:=(show GR g (.row b w') [c] from hv)
  simp only [sC,and_true] at e3
  subst e3
  split at hk
  ·rename_i T fz l hb
   obtain ⟨gb',k1,k2,k3,k4,k5,k6⟩:=hs.bxs.box b _ hb
   rw [e1] at k1
   cases k1
   unfold WinR at hw
   cases hbl:gb.blk with
   | some blk =>
    cases w' with
    | whole=>simp only [hbl] at hw; exact ⟨_,_,_,hw⟩
    | part off n full =>
     simp only [hbl] at hw
     obtain ⟨_,a,c,e,_⟩:=hw
     exact ⟨_,_,_,e⟩
   | none =>
    have hl:l = []:=by
     simp only [hbl] at k6
     exact k6.1
    subst hl
    cases w' <;> simp [Win.app] at hk
  ·cases hk
 ·cases hk
theorem znp {C:Cfg} (hC:CfgOK C P) {g:Gh} {s:St} {tm:Array Value} {tms:List (Array Value)} {w:World} (hs:StR g s tm tms w) {a:AV} (hk:zfv s.bxs a = true) {op:BinOp} {t:Nat} {v:AV} (h:nilSl C op t = some v) {c:Value} (hv:VR g a c) (ox oy:Operand) :
  ∃ z,(do eqGuard op t ox oy c (.slice none 0 0); binOp op t c (.slice none 0 0):Sem Value).run P w = .ok z w∧VR g v z:=by
 obtain ⟨ad,n,k,rfl⟩:=zkZ hs hk hv
 unfold nilSl at h
 split at h
 ·rename_i e hu
  have hq:=ze2 (P:=P) (w:=w) (hC.sl _ _ hu) ad n k
  have hg:(eqGuard op t ox oy (.slice (some ad) n k) (.slice none 0 0)).run P w = .ok () w:=zfK (by simp) (by simp)
  split at h
  ·cases h
   obtain ⟨z,h3,h4⟩:=za1 (g:=g) (v:=.val .bool false) (op:=.eql) hq (.inl ⟨rfl,rfl⟩) rfl rfl
   exact ⟨z,by rw [Sem.run_bind,hg]; exact h3,h4⟩
  ·cases h
   obtain ⟨z,h3,h4⟩:=za1 (g:=g) (v:=.val .bool true) (op:=.neq) hq (.inr ⟨rfl,rfl⟩) rfl rfl
   exact ⟨z,by rw [Sem.run_bind,hg]; exact h3,h4⟩
  ·cases h
 ·cases h
theorem zkk (hE : EnvOK P E) {F : Fence} (hW : Wide F) {n : Nat} {inl : Nat → Callee → List AV → St → (AV → St → Option R) → (Pan → St → Option R) → Option R} (hI : InlOK P E inl) {g : Gh} {s : St} {tm : Array Value} {tms : List (Array Value)} {w : World} {ds : List Deferred} (hs : StR g s tm (dfs ds ++ tms) w) (hG : zay E.C g.fz)
    {base : Nat} {o : Oper} {K : AV → St → Option R} {KP : Pan → St → Option R} {r : R} (h : exec1 E inl base o s K KP = some r) (hro : F.round = none ∨ zbO o = true) {next : Act → World → Prop} {Q : Exit → Act → World → Prop}
    (hn : ∀ v s' g' z w' ds', K v s' = some r → VR g' v z → DsTo o ds ds' → StR g' s' tm (dfs ds' ++ tms) w' → Tr g w g' w' → next (Act.put ⟨tm, ds'⟩ o.dst z) w')
    (hp : ∀ p s' g' w', KP p s' = some r → StR g' s' tm (dfs ds ++ tms) w' → Tr g w g' w' → Q (.panic [Pan.entry p]) ⟨tm, ds⟩ w') : o.wpIn F n P ⟨tm, ds⟩ w next Q := by
  unfold exec1 at h
  split at h
  · -- panic
    rename_i x hop
    refine za0 hW (fun c hc => by rw [hop] at hc; cases hc) ?_
    split at h
    · rename_i v hv
      split at h
      · rename_i p hpv
        have hc := zno hpv (ev_ok hs hG hv ds)
        have hr : (execOp (Act.eval ⟨tm, ds⟩) o).run P w = .halt (.panic (.iface p.t p.v.val)) w := by
          simp only [execOp, hop, hc, Instr.panic, goPanic]
          rfl
        rw [hr, Oper.uponIn_panic]
        exact hp p s g w h hs (Tr.refl _ _)
      · cases h
    · cases h
  · -- a deferred call
    rename_i f args ats hop
    have hrn : F.round = none := hro.resolve_right (by unfold zbO; rw [hop]; simp)
    split at h
    · rename_i f' caps vs hf hvs
      obtain ⟨cv, hcv, hcaps⟩ := ev_ok hs hG hf ds
      simp only [sC, and_true] at hcv
      have hv := zdS hs hG ds hvs
      have hr : (execOp (Act.eval ⟨tm, ds⟩) o).run P w = .ok (.defer { target := .fn (.func f') cv, args := args.map (Act.eval ⟨tm, ds⟩) }) w := by
        simp only [execOp, hop, resolve, hcv, Deferred.ofValue, Sem.run_bind, Sem.run_pure, Result.andThen_ok, Array.empty_append]
      refine ⟨fun f _ => hW.fn f, ?_⟩
      rw [hrn, Oper.semAt_none, hr, Oper.uponIn_defer]
      have hds : dfs ({ target := .fn (.func f') cv, args := args.map (Act.eval ⟨tm, ds⟩) } :: ds) = #[.tuple (#[.func (.func f') #[] cv] ++ args.map (Act.eval ⟨tm, ds⟩))] :: dfs ds := rfl
      cases hok : vs.all AV.okGs with
      | false => rw [hok] at h; cases h
      | true =>
        rw [hok, cond_true] at h
        refine hn _ _ g undef w _ h ⟨#[], rfl, trivial⟩ (.inr ⟨by unfold zbO; rw [hop], f', cv, _, rfl⟩) ?_ (Tr.refl _ _)
        rw [hds]
        refine ⟨hs.env, ⟨fun m v e => ?_, hs.stk⟩, hs.bxs, hs.fz⟩
        by_cases hm : 0 = m
        · subst hm
          rw [zad] at e
          cases e
          refine ⟨_, rfl, ?_⟩
          simp only [Array.toList_append, List.cons_append, List.nil_append]
          refine ⟨⟨cv, rfl, hcaps⟩, ?_⟩
          rw [Array.toList_map]
          exact zju hv hok
        · rw [zab _ _ hm] at e; cases e
    · cases h
  · -- pick
    rename_i c a b hop
    refine za0 hW (fun c hc => by rw [hop] at hc; cases hc) ?_
    split at h
    · rename_i t hc
      have hcv : [Act.eval ⟨tm, ds⟩ c] = [Value.bool t] := ev_ok hs hG hc ds
      simp only [sC, and_true] at hcv
      have hr : (execOp (Act.eval ⟨tm, ds⟩) o).run P w = .ok (.value (if t = true then Act.eval ⟨tm, ds⟩ a else Act.eval ⟨tm, ds⟩ b)) w := by
        simp only [execOp, hop, hcv]
        cases t <;> simp [asBool]
      rw [hr, Oper.uponIn_value]
      cases t
      · simp only [cond_false] at h
        split at h
        · rename_i v hv
          exact hn v s g _ w ds h (ev_ok hs hG hv ds) (.inl rfl) hs (Tr.refl _ _)
        · cases h
      · simp only [cond_true] at h
        split at h
        · rename_i v hv
          exact hn v s g _ w ds h (ev_ok hs hG hv ds) (.inl rfl) hs (Tr.refl _ _)
        · cases h
    · cases h
  · -- a call
    rename_i f args ats hop
    refine za0 hW (fun c hc => by rw [hop] at hc; cases hc) ?_
    split at h
    · rename_i f' caps vs hf hvs
      obtain ⟨cv, hcv, hcaps⟩ := ev_ok hs hG hf ds
      simp only [sC, and_true] at hcv
      have hv := zdS hs hG ds hvs
      have hr : ∀ (_ : zaA P f'), (execOp (Act.eval ⟨tm, ds⟩) o).run P w = .ok (.enter f' (args.map (Act.eval ⟨tm, ds⟩) ++ cv)) w := by
        intro he
        simp only [execOp, hop, resolve, hcv, Deferred.ofValue, Sem.run_bind, Sem.run_pure, Result.andThen_ok, invoke, Array.empty_append]
        exact zca he _ _
      have fin : zaA P f' → zhB P f' (args.map (Act.eval ⟨tm, ds⟩) ++ cv) g tm (dfs ds ++ tms) w K KP r → o.uponIn F n P ⟨tm, ds⟩ next Q ((execOp (Act.eval ⟨tm, ds⟩) o).run P w) := by
        intro he hc
        rw [hr he, Oper.uponIn_enter]
        refine ⟨hW.deep n, hW.calls.2 (Calls.mono hc ?_)⟩
        rintro e w' (⟨v, av, s', g', rfl, h1, h2, h3, h4⟩ | ⟨p, s', g', rfl, h1, h3, h4⟩)
        · exact hn av s' g' v w' ds h1 h2 (.inl rfl) h3 h4
        · exact hp p s' g' w' h1 h3 h4
      have hall : VsR g (vs ++ caps) (args.map (Act.eval ⟨tm, ds⟩) ++ cv).toList := by
        rw [Array.toList_append, Array.toList_map]
        exact hv.append hcaps.vsR
      split at h
      · rename_i p hp
        have hcv0 : cv = #[] := by
          obtain ⟨l⟩ := cv
          cases l with
          | nil => rfl
          | cons a l => exact hcaps.elim
        obtain ⟨h1, h2⟩ := hE.pure f' p hp
        refine fin h2 ?_
        rw [hcv0, Array.append_empty]
        exact (zni h1 hs hG h (by rw [Array.toList_map]; exact hv)).p
      · split at h
        · rename_i p hp _
          have hcv0 : cv = #[] := by
            obtain ⟨l⟩ := cv
            cases l with
            | nil => rfl
            | cons a l => exact hcaps.elim
          obtain ⟨h1, h2⟩ := hE.fresh f' p hp
          refine fin h2 ?_
          rw [hcv0, Array.append_empty]
          exact (znl h1 hs hG h (by rw [Array.toList_map]; exact hv)).p
        · split at h
          · rename_i p hp _ _
            have hcv0 : cv = #[] := by
              obtain ⟨l⟩ := cv
              cases l with
              | nil => rfl
              | cons a l => exact hcaps.elim
            obtain ⟨h1, h2⟩ := hE.maps f' p hp
            refine fin h2 ?_
            rw [hcv0, Array.append_empty]
            exact (znk h1 hs hG h (by rw [Array.toList_map]; exact hv)).p
          · split at h
            · rename_i c hc
              obtain ⟨h1, h2, h3⟩ := hE.calls f' c hc
              exact fin h3 (znm h1 h2 hs hG h hall).p
            · split at h
              · rename_i p hp
                obtain ⟨h1, h2⟩ := hE.inpl f' p hp
                exact fin h2 (znn h1 hs hG h hall).p
              · obtain ⟨h1, h2⟩ := hI.fn _ _ _ _ _ _ _ h
                exact fin h1 (h2 g tm (dfs ds ++ tms) w _ hs hG hall)
    · -- a loop over a function hands a value down
      rename_i b vs hf hvs
      obtain ⟨gb, l, e1, e2, e3, e4⟩ := ev_ok hs hG hf ds
      simp only [sC, and_true] at e4
      have hv := zdS hs hG ds hvs
      obtain ⟨f2, tmps, assign, body, hy, hround⟩ := hI.yld _ _ _ _ _ _ _ h g tm (dfs ds ++ tms) w (args.map (Act.eval ⟨tm, ds⟩)) gb l hs hG (by rw [Array.toList_map]; exact hv) e1 e3
      have hr : (execOp (Act.eval ⟨tm, ds⟩) o).run P w = .ok (.round l f2 tmps assign body) w := by
        simp only [execOp, hop, resolve, e4, Deferred.ofValue, Sem.run_bind, Sem.run_pure, Result.andThen_ok, invoke, Array.empty_append, Array.append_empty]
        exact hy
      rw [hr, Oper.uponIn_round]
      refine ⟨hW.deep n, (hround F (n - 1) hW).mono ?_⟩
      rintro e w' ⟨v, av, s', g', rfl, h1, h2, h3, h4⟩
      exact hn av s' g' v w' ds h1 h2 (.inl rfl) h3 h4
    · -- a method with its receiver
      rename_i f' caps vs hf hvs
      obtain ⟨cv, hcv, hcaps⟩ := ev_ok hs hG hf ds
      simp only [sC, and_true] at hcv
      have hv := zdS hs hG ds hvs
      have hall : VsR g (caps ++ vs) (cv ++ args.map (Act.eval ⟨tm, ds⟩)).toList := by
        rw [Array.toList_append, Array.toList_map]
        exact hcaps.vsR.append hv
      obtain ⟨h1, h2⟩ := hI.fn _ _ _ _ _ _ _ h
      have hr : (execOp (Act.eval ⟨tm, ds⟩) o).run P w = .ok (.enter f' (cv ++ args.map (Act.eval ⟨tm, ds⟩))) w := by
        simp only [execOp, hop, resolve, hcv, Deferred.ofValue, Sem.run_bind, Sem.run_pure, Result.andThen_ok, invoke, Array.append_empty]
        exact zca h1 _ _
      rw [hr, Oper.uponIn_enter]
      refine ⟨hW.deep n, hW.calls.2 (Calls.mono (h2 g tm (dfs ds ++ tms) w _ hs hG hall) ?_)⟩
      rintro e w' (⟨v, av, s', g', rfl, h1, h2, h3, h4⟩ | ⟨p, s', g', rfl, h1, h3, h4⟩)
      · exact hn av s' g' v w' ds h1 h2 (.inl rfl) h3 h4
      · exact hp p s' g' w' h1 h3 h4
    · cases h
  · -- a range begins
    rename_i t x hop
    refine za0 hW (fun c hc => by rw [hop] at hc; cases hc) ?_
    split at h
    · rename_i kt et b hu hb hk
      split at h
      · rename_i T V l hm
        obtain ⟨z, w', g', h1, h2, h3, h4⟩ := zl9 hE.cfg hs hu hm hk (ev_ok hs hG hb ds)
        have hr : (execOp (Act.eval ⟨tm, ds⟩) o).run P w = .ok (.value z) w' := by
          simp only [execOp, hop]
          rw [Sem.run_bind, h1]
          rfl
        rw [hr, Oper.uponIn_value]
        exact hn _ _ g' z w' ds h h2 (.inl rfl) h3 h4
      · cases h
    · cases h
  · -- elements of a literal
    rename_i t n' parts hop
    split at h
    · rename_i c v e hx
      refine za0 hW (zbb hx) ?_
      cases c with
      | false => simp at h
      | true =>
        simp only [cond_true] at h
        obtain ⟨n, w', g', h1, h2, h3, h4⟩ := zbL hE.cfg hs hG hx ds
        rw [h1]
        rcases h2 with ⟨z, rfl, h2⟩ | ⟨rfl, h2⟩
        · rw [Oper.uponIn_value]
          exact hn v _ g' z w' ds h h2 (.inl rfl) h3 h4
        · rw [Oper.uponIn_skip]
          exact hn v _ g' undef w' ds h h2 (.inl rfl) h3 h4
    · split at h
      · rename_i vs hvs
        obtain ⟨fz1, hs1, t1⟩ := StR.frzL (vs.map (·.2)) hs
        split at h
        · rename_i c v e hx
          refine za0 hW (zbb hx) ?_
          cases c with
          | false => simp at h
          | true =>
            simp only [cond_true] at h
            obtain ⟨n, w', g', h1, h2, h3, h4⟩ := zbL hE.cfg hs1 (hG.mono t1.fz) hx ds
            rw [h1]
            rcases h2 with ⟨z, rfl, h2⟩ | ⟨rfl, h2⟩
            · rw [Oper.uponIn_value]
              exact hn v _ g' z w' ds h h2 (.inl rfl) h3 (t1.trans h4)
            · rw [Oper.uponIn_skip]
              exact hn v _ g' undef w' ds h h2 (.inl rfl) h3 (t1.trans h4)
        · cases h
      · cases h
  · -- an entry of a map
    rename_i t m k x hop
    split at h
    · rename_i c v e hx
      refine za0 hW (zbb hx) ?_
      cases c with
      | false => simp at h
      | true =>
        simp only [cond_true] at h
        obtain ⟨n, w', g', h1, h2, h3, h4⟩ := zbL hE.cfg hs hG hx ds
        rw [h1]
        rcases h2 with ⟨z, rfl, h2⟩ | ⟨rfl, h2⟩
        · rw [Oper.uponIn_value]
          exact hn v _ g' z w' ds h h2 (.inl rfl) h3 h4
        · rw [Oper.uponIn_skip]
          exact hn v _ g' undef w' ds h h2 (.inl rfl) h3 h4
    · split at h
      · rename_i y hy
        obtain ⟨fz1, hs1, t1⟩ := StR.frzL [y] hs
        split at h
        · rename_i c v e hx
          refine za0 hW (zbb hx) ?_
          cases c with
          | false => simp at h
          | true =>
            simp only [cond_true] at h
            obtain ⟨n, w', g', h1, h2, h3, h4⟩ := zbL hE.cfg hs1 (hG.mono t1.fz) hx ds
            rw [h1]
            rcases h2 with ⟨z, rfl, h2⟩ | ⟨rfl, h2⟩
            · rw [Oper.uponIn_value]
              exact hn v _ g' z w' ds h h2 (.inl rfl) h3 (t1.trans h4)
            · rw [Oper.uponIn_skip]
              exact hn v _ g' undef w' ds h h2 (.inl rfl) h3 (t1.trans h4)
        · cases h
      · cases h
  · -- a look into a map
    rename_i t m k ok hop
    split at h
    · rename_i u hu
      refine za0 hW (fun c hc => by rw [hop] at hc; cases hc) ?_
      obtain ⟨a, x, h1, h2, h3⟩ := zmg hE.cfg hs hG hu ok ds
      have hr : (execOp (Act.eval ⟨tm, ds⟩) o).run P w = .ok (.value (if ok = true then .tuple #[.slice none 0 0, .bool false] else .slice none 0 0)) w := by
        simp only [execOp, hop]
        rw [Sem.run_bind, h3]
        rfl
      rw [hr, Oper.uponIn_value]
      refine hn _ _ g _ w ds h ?_ (.inl rfl) hs (Tr.refl _ _)
      cases ok
      · exact rfl
      · exact ⟨_, rfl, rfl, rfl, trivial⟩
    · split at h
      · rename_i c v e hx
        refine za0 hW (zbb hx) ?_
        cases c with
        | false => simp at h
        | true =>
          simp only [cond_true] at h
          obtain ⟨n, w', g', h1, h2, h3, h4⟩ := zbL hE.cfg hs hG hx ds
          rw [h1]
          rcases h2 with ⟨z, rfl, h2⟩ | ⟨rfl, h2⟩
          · rw [Oper.uponIn_value]
            exact hn v _ g' z w' ds h h2 (.inl rfl) h3 h4
          · rw [Oper.uponIn_skip]
            exact hn v _ g' undef w' ds h h2 (.inl rfl) h3 h4
      · cases h
  · -- a slice held against nil
    rename_i op t x yt hop
    refine za0 hW (fun c hc => by rw [hop] at hc; cases hc) ?_
    split at h
    · rename_i a ha
      cases hk : zfv s.bxs a with
      | true =>
        rw [hk, cond_true] at h
        split at h
        · rename_i v hv
          obtain ⟨z, h1, h2⟩ := znp hE.cfg hs hk hv (ev_ok hs hG ha ds) x (.const (.slice none 0 0))
          have hr : (execOp (Act.eval ⟨tm, ds⟩) o).run P w = .ok (.value z) w := by
            simp only [execOp, hop]
            have h1' : (do eqGuard op t x (.const (.slice none 0 0)) (Act.eval ⟨tm, ds⟩ x) (Act.eval ⟨tm, ds⟩ (.const (.slice none 0 0))); binOp op t (Act.eval ⟨tm, ds⟩ x) (Act.eval ⟨tm, ds⟩ (.const (.slice none 0 0))) : Sem Value).run P w = .ok z w := h1
            rw [Sem.run_bind, h1']
            rfl
          rw [hr, Oper.uponIn_value]
          exact hn v s g z w ds h h2 (.inl rfl) hs (Tr.refl _ _)
        · cases h
      | false =>
        rw [hk, cond_false] at h
        split at h
        · rename_i c v e hx
          cases c with
          | false => simp at h
          | true =>
            simp only [cond_true] at h
            obtain ⟨n, w', g', h1, h2, h3, h4⟩ := zbL hE.cfg hs hG hx ds
            rw [h1]
            rcases h2 with ⟨z, rfl, h2⟩ | ⟨rfl, h2⟩
            · rw [Oper.uponIn_value]
              exact hn v _ g' z w' ds h h2 (.inl rfl) h3 h4
            · rw [Oper.uponIn_skip]
              exact hn v _ g' undef w' ds h h2 (.inl rfl) h3 h4
        · cases h
    · cases h
  · -- an entry of a literal
    rename_i t m k x hop
    refine za0 hW (fun c hc => by rw [hop] at hc; cases hc) ?_
    split at h
    · rename_i c v e hx
      cases c with
      | false => simp at h
      | true =>
        simp only [cond_true] at h
        obtain ⟨n, w', g', h1, h2, h3, h4⟩ := zbL hE.cfg hs hG hx ds
        have h1' : (execOp (Act.eval ⟨tm, ds⟩) o).run P w = .ok n w' := by
          rw [← h1]
          simp only [execOp, hop]
        rw [h1']
        rcases h2 with ⟨z, rfl, h2⟩ | ⟨rfl, h2⟩
        · rw [Oper.uponIn_value]
          exact hn v _ g' z w' ds h h2 (.inl rfl) h3 h4
        · rw [Oper.uponIn_skip]
          exact hn v _ g' undef w' ds h h2 (.inl rfl) h3 h4
    · cases h
  · -- a range goes on
    rename_i x hop
    refine za0 hW (fun c hc => by rw [hop] at hc; cases hc) ?_
    split at h
    · rename_i b hb
      split at h
      · rename_i T V l hi
        rcases zoC (P := P) hs hi (ev_ok hs hG hb ds) o.type with ⟨rfl, h1⟩ | ⟨hl, p, hp1, z, w', h1, h2, h3, h4⟩
        · have hr : (execOp (Act.eval ⟨tm, ds⟩) o).run P w = .ok (.value (.tuple #[.bool false])) w := by
            simp only [execOp, hop]
            rw [Sem.run_bind, h1]
            rfl
          rw [hr, Oper.uponIn_value]
          exact hn _ _ g _ w ds h ⟨_, rfl, rfl, trivial⟩ (.inl rfl) hs (Tr.refl _ _)
        · have hr : (execOp (Act.eval ⟨tm, ds⟩) o).run P w = .ok (.value z) w' := by
            simp only [execOp, hop]
            rw [Sem.run_bind, h1]
            rfl
          have hne : l.isEmpty = false := by cases l with
            | nil => exact (hl rfl).elim
            | cons _ _ => rfl
          rw [hne, cond_false] at h
          rw [hr, Oper.uponIn_value]
          exact hn _ _ g z w' ds (zgs h p hp1) h2 (.inl rfl) h3 h4
      · cases h
    · cases h
  · -- any other
    split at h
    · rename_i c v e hx
      refine za0 hW (zbb hx) ?_
      cases c with
      | false => simp at h
      | true =>
        simp only [cond_true] at h
        obtain ⟨n, w', g', h1, h2, h3, h4⟩ := zbL hE.cfg hs hG hx ds
        rw [h1]
        rcases h2 with ⟨z, rfl, h2⟩ | ⟨rfl, h2⟩
        · rw [Oper.uponIn_value]
          exact hn v _ g' z w' ds h h2 (.inl rfl) h3 h4
        · rw [Oper.uponIn_skip]
          exact hn v _ g' undef w' ds h h2 (.inl rfl) h3 h4
    · cases h
theorem zfT {g:Gh} {tm:Array Value} {d:Nat} {b:Bool} (h:VR g (.val .bool b) (tm.getD d undef)):tm[d]? = some (.bool b):=by
 have h':[tm.getD d undef] = [Value.bool b]:=h
 simp only [sC,and_true] at h'
 rw [Array.getD_eq_getD_getElem?] at h'
 cases ht:tm[d]? with
 | none=>rw [ht] at h'; cases h'
 | some v=>rw [ht] at h'; simp only [Option.getD_some] at h'; rw [h']
theorem zfU {g:Gh} {tm:Array Value} {d:Nat} (h:VR g (.tup []) (tm.getD d undef)):tm[d]? = none ∨ tm[d]? = some (.tuple #[]):=by
 obtain ⟨arr,h1,h2⟩:=h
 obtain ⟨l⟩:=arr
 cases l with
 | cons a l=>exact h2.elim
 | nil =>
  rw [Array.getD_eq_getD_getElem?] at h1
  cases ht:tm[d]? with
  | none=>exact .inl rfl
  | some v=>rw [ht] at h1; simp only [Option.getD_some] at h1; rw [h1]; exact .inr rfl
theorem skipR (g:Gh):VR g (.tup []) undef:=⟨#[],rfl,trivial⟩
theorem zcj {n:Nat} {o:Oper} (h:dstOk n o = true):∀ d,o.dst = some d→d < n:=by
 intro d hd
 unfold dstOk at h
 rw [hd] at h
 exact Nat.le_of_ble_eq_true h
inductive DsGo:List Deferred→List Deferred→Prop
 | refl (ds:List Deferred):DsGo ds ds
 | cons {ds ds':List Deferred} (f:FuncId) (cap args:Array Value) (h:DsGo ({ target:=.fn (.func f) cap,args:=args } :: ds) ds'):DsGo ds ds'
theorem DsTo.go {o:Oper} {ds ds1 ds2:List Deferred} (h:DsTo o ds ds1) (k:DsGo ds1 ds2):DsGo ds ds2:=by
 rcases h with rfl | ⟨_,f,cap,args,rfl⟩
 ·exact k
 ·exact .cons f cap args k
theorem DsTo.same {o:Oper} {ds ds':List Deferred} (h:DsTo o ds ds') (hn:zbO o = true):ds' = ds:=by
 rcases h with h | ⟨h,_⟩
 ·exact h
 ·rw [hn] at h; cases h
theorem ziv (hE:EnvOK P E) {F:Fence} (hW:Wide F) {N:Nat} {inl:Nat→Callee→List AV→St→(AV→St→Option R)→(Pan→St→Option R)→Option R} (hI:InlOK P E inl) {base:Nat} {ops:Array Oper} {n:Nat} {tms:List (Array Value)} {Q:Exit→Act→World→Prop} {K:Ex→St→Option R} {r:R} :
  ∀ (rest:List Oper) (k:Nat),ops.toList.drop k = rest→rest.all (dstOk n) = true→(F.round = none ∨ rest.all zbO = true)→∀ {g:Gh} {s:St} {tm:Array Value} {w:World} {ds:List Deferred},zbH E inl base ops rest s K = some r→StR g s tm (dfs ds++tms) w→zay E.C g.fz→tm.size = n →
   (∀ s' tm' g' w' ds',K .normal s' = some r→StR g' s' tm' (dfs ds'++tms) w'→Tr g w g' w'→tm'.size = n→DsGo ds ds'→Q .normal ⟨tm',ds'⟩ w') →
   (∀ p s' tm' g' w' ds',K (.pan p) s' = some r→StR g' s' tm' (dfs ds'++tms) w'→Tr g w g' w'→tm'.size = n→DsGo ds ds'→Q (.panic [Pan.entry p]) ⟨tm',ds'⟩ w')→wpOpsIn F N P ops Q (List.range' k rest.length) ⟨tm,ds⟩ w
 | [],k,_,_,_,g,s,tm,w,ds,h,hs,_,hn,hQ,_=>hQ s tm g w ds h hs (Tr.refl _ _) hn (.refl _)
 | o :: rest,k,hd,hall,hro,g,s,tm,w,ds,h,hs,hG,hn,hQ,hP=>by
  simp only [List.all_cons,sA] at hall hro
  have hlt:=zcj hall.1
  have hok:ops[k]? = some o:=by
   have:ops.toList[k]? = some o:=by
    have:=congrArg (fun l=>l[0]?) hd
    simpa using this
   rw [← Array.getElem?_toList]; exact this
  have hd':ops.toList.drop (k + 1) = rest:=by
   rw [← List.drop_drop,hd]; rfl
  have go:∀ {g1:Gh} {s1:St} {tm1:Array Value} {w1:World} {ds1:List Deferred},zbH E inl base ops rest s1 K = some r→DsTo o ds ds1→StR g1 s1 tm1 (dfs ds1++tms) w1→Tr g w g1 w1→tm1.size = n→wpOpsIn F N P ops Q (List.range' (k + 1) rest.length) ⟨tm1,ds1⟩ w1:=by
   intro g1 s1 tm1 w1 ds1 h1 hd1 hs1 ht1 hn1
   exact ziv hE hW hI rest (k + 1) hd' hall.2 (hro.imp id (·.2)) h1 hs1 (hG.mono ht1.fz) hn1 (fun s' tm' g' w' ds' a b c d e=>hQ s' tm' g' w' ds' a b (ht1.trans c) d (hd1.go e)) (fun p s' tm' g' w' ds' a b c d e=>hP p s' tm' g' w' ds' a b (ht1.trans c) d (hd1.go e))
  have run:∀ {s1:St},StR g s1 tm (dfs ds++tms) w→exec1 E inl base o s1 (fun v s=>zbH E inl base ops rest { s with env:=putE o.dst v s.env } K) (fun p s=>K (.pan p) s) = some r→o.wpIn F N P ⟨tm,ds⟩ w (wpOpsIn F N P ops Q (List.range' (k + 1) rest.length)) Q:=by
   intro s1 hs1 h1
   refine zkk hE hW hI hs1 hG h1 (hro.imp id (·.1)) (fun v s' g' z w' ds' a b c d e=>?_) (fun p s' g' w' a b c=>hP p s' tm g' w' ds a b c hn (.refl _))
   rw [put_defers]
   exact go a c (d.put (fun d hd=>by rw [hn]; exact hlt d hd) b ds') e (by rw [zbM]; exact hn)
  have skip:∀ {s1:St},StR g s1 tm (dfs ds++tms) w→zbH E inl base ops rest { s1 with env:=putE o.dst (.tup []) s1.env } K = some r→wpOpsIn F N P ops Q (List.range' (k + 1) rest.length) (Act.put ⟨tm,ds⟩ o.dst undef) w:=by
   intro s1 hs1 h1
   rw [put_defers]
   exact go h1 (.inl rfl) (hs1.put (fun d hd=>by rw [hn]; exact hlt d hd) (skipR g) ds) (Tr.refl _ _) (by rw [zbM]; exact hn)
  simp only [List.length_cons,List.range'_succ,wpOpsIn,hok]
  simp only [zbH] at h
  split at h
  ·rename_i hg
   have hw:Region.wanted o (yielded ops tm) = true:=by simp [Region.wanted,hg]
   rw [if_pos hw]
   exact run hs h
  ·rename_i j want hg
   split at h
   ·rename_i d hj
    have hw:Region.wanted o (yielded ops tm) = (yielded ops tm j == some want):=by simp [Region.wanted,hg]
    have hy:yielded ops tm j = match tm[d]? with | some (.bool b)=>some b | _=>none:=by unfold yielded; rw [hj]; rfl
    split at h
    ·rename_i b hb
     have hv:=hs.env d _ hb
     have hy':yielded ops tm j = some b:=by rw [hy,zfT hv]
     rw [hw,hy']
     cases b <;> cases want <;> simp only [cond_true,cond_false] at h
     ·rw [if_pos (by decide)]; exact run (hs.again hv) h
     ·rw [if_neg (by decide)]; exact ⟨fun f _=>hW.fn f,skip (hs.again hv) h⟩
     ·rw [if_neg (by decide)]; exact ⟨fun f _=>hW.fn f,skip (hs.again hv) h⟩
     ·rw [if_pos (by decide)]; exact run (hs.again hv) h
    ·rename_i hb
     have hv:=hs.env d _ hb
     have hy':yielded ops tm j = none:=by
      rw [hy]
      rcases zfU hv with h | h <;> rw [h]
     rw [hw,hy',if_neg (by cases want <;> decide)]
     exact ⟨fun f _=>hW.fn f,skip hs h⟩
    ·cases h
   ·cases h
end
end Go.V
