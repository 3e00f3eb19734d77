/- Part of the proof. -/
import Derived.Sort.LoopGhostIn
import Derived.RecoverIn
import Derived.ChangeArms
import Derived.OpenShut
import Derived.ChangeStays
import Derived.ReadAgain
import Derived.ChangeSame
import Derived.ChangeVars
import Derived.JoinedOf
import Derived.RowKit
import Derived.LaidLaws
import Derived.Handed
import Derived.Stop.Joined
import Derived.KernelRfl
import Derived.Test.YtfjpfjcdejjkeaaGreatDoorProg
import Derived.LaidHandle
import Derived.Test.YtfjpfjcdejjkeaaGreatDoorCards
import Derived.Test.YtfjpfjcdejjkeaaGreatDoorTie
import Derived.Shelf.Strings.Builder1
import Derived.Shelf.Strings.BuilderF
import Derived.Shelf.Strings.BuilderK
import Derived.Ground.Names2Prog
import Derived.WalkKit
import Derived.BigCall
import Derived.Sort.Grow
import Derived.Sort.Row
import Derived.Shelf.Sort.Plain
import Derived.Shelf.Slices.In.SortNone
import Derived.Shelf.SlGeneric
import Derived.Shelf.SlSortCmp.WholeK
import Derived.Ground.SlsfProg
import Derived.Test.YtfjpfjcdejjkeaaGreatDoorA2
set_option linter.all false
set_option linter.unusedVariables false
set_option linter.unusedSectionVars false
set_option linter.unusedSimpArgs false
namespace Go.V
variable [Codes]
section
variable {P:Program} {E:Env0}
theorem VsR.grow' {g g':Gh} (hx:ExtBut none g g'):∀ {l:List AV} {cs:List Value},VsR g l cs→VsR g' l cs
 | [],[],h=>h
 | [],_ :: _,h=>h.elim
 | _ :: _,[],h=>h.elim
 | _ :: _,_ :: _,⟨h1,h2⟩=>⟨h1.grow hx,h2.grow' hx⟩
structure Mk (p:Nat→Prop) (g:Gh) (w:World) (ds:List Deferred):Prop where
 mem:∀ d∈ds,(∃ r,d = { target:=.collected r,args:=#[] }∧p r∧w.heap[r]? = some (.deferred (some []))∧¬ owned g r) ∨ ∃ f cap args,d = { target:=.fn (.func f) cap,args:=args }
 apart:ds.Pairwise (fun a b=>∀ r,a.target = .collected r→b.target = .collected r→False)
theorem Mk.nil {p:Nat→Prop} {g:Gh} {w:World}:Mk p g w []:=⟨(fun _ h=>nomatch h),.nil⟩
theorem Mk.tr {p:Nat→Prop} {g g':Gh} {w w':World} {ds:List Deferred} (h:Mk p g w ds) (t:Tr g w g' w'):Mk p g' w' ds:=by
 refine ⟨fun d hd=>?_,h.apart⟩
 rcases h.mem d hd with ⟨r,e1,e2,e3,e4⟩ | h
 ·have hlt:=(Array.getElem?_eq_some_iff.1 e3).1
  refine .inl ⟨r,e1,e2,(t.block r hlt e4).trans e3,fun ho=>?_⟩
  rcases t.own r ho with h | h
  ·exact e4 h
  ·omega
 ·exact .inr h
theorem Mk.cons {p:Nat→Prop} {g:Gh} {w:World} {ds:List Deferred} (h:Mk p g w ds) (f:FuncId) (cap args:Array Value):Mk p g w ({ target:=.fn (.func f) cap,args:=args } :: ds):=by
 refine ⟨fun d hd=>?_,List.pairwise_cons.2 ⟨(fun _ _ _ e _=>nomatch e),h.apart⟩⟩
 rcases List.mem_cons.1 hd with rfl | hd
 ·exact .inr ⟨f,cap,args,rfl⟩
 ·exact h.mem d hd
theorem Mk.go {p:Nat→Prop} {g:Gh} {w:World} {ds ds':List Deferred} (h:Mk p g w ds) (k:DsGo ds ds'):Mk p g w ds':=by
 induction k with
 | refl=>exact h
 | cons f cap args _ ih=>exact ih (h.cons f cap args)
theorem Mk.none {g:Gh} {w:World} {ds:List Deferred} (h:Mk (fun _=>False) g w ds) (hd:dfs ds = []):ds = []:=by
 cases ds with
 | nil=>rfl
 | cons d ds =>
  rcases h.mem d (by simp) with ⟨r,e1,e2,_⟩ | ⟨f,cap,args,rfl⟩
  ·exact e2.elim
  ·simp [dfs,frameOf] at hd
theorem StkR.length {g:Gh}:∀ {l:List Env} {m:List (Array Value)},StkR g l m→l.length = m.length
 | [],[],_=>rfl
 | _ :: _,_ :: _,h=>by simp [h.2.length]
 | [],_ :: _,h=>h.elim
 | _ :: _,[],h=>h.elim
theorem StR.putOther {g:Gh} {s:St} {tm:Array Value} {tms:List (Array Value)} {w:World} (h:StR g s tm tms w) {r:Nat} {x:Option (List Deferred)} (hr:w.heap[r]? = some (.deferred x)) (hno:¬ owned g r) (o:Obj) :
  StR g s tm tms (w.putObj r o):=by
 have hw:∀ b,b ≠ r→(w.putObj r o).heap[b]? = w.heap[b]?:=fun b hb=>World.putObj_heap_other hb
 refine ⟨h.env,h.stk,⟨fun k b e=>?_,h.bxs.dom,h.bxs.sep⟩,fun b o' v e=>?_⟩
 ·obtain ⟨gb,h1,h2⟩:=h.bxs.box k b e
  exact ⟨gb,h1,h2.ext (ExtBut.refl g) (fun blk e1 e2=>hw blk (fun e=>hno ⟨k,gb,h1,by rw [← e]; exact e1,e2⟩)) (fun _ _ _ _ h=>h) (boxClear_none _)⟩
 ·have h1:=h.fz b o' v e
  have hb:b ≠ r:=by
   intro e
   subst e
   simp [World.cell?,hr] at h1
  rw [← h1]
  exact World.cell?_of_block (a:=⟨b,o',none⟩) (hw b hb)
theorem Tr.putOther {g0 g:Gh} {w0 w:World} (t:Tr g0 w0 g w) {r:Nat} (hr:w0.heap.size≤r) (o:Obj):Tr g0 w0 g (w.putObj r o) :=
 ⟨t.os,t.tape,t.output,by have:=t.size; simp only [World.putObj,Array.size_setIfInBounds]; exact this,t.fz,t.fzNew,t.own,fun b hb ho=>(World.putObj_heap_other (by omega)).trans (t.block b hb ho)⟩
theorem putL_ok {g:Gh}:∀ {ps:List Nat} {args:List AV} {vals:List Value} {env:Env} {tm:Array Value},VsR g args vals→EnvR g env tm→ps.length = args.length→(∀ p∈ps,p < tm.size) →
  EnvR g (putL ps args env) ((ps.zip vals).foldl (fun t x=>t.setIfInBounds x.1 x.2) tm)∧((ps.zip vals).foldl (fun t x=>t.setIfInBounds x.1 x.2) tm).size = tm.size
 | [],[],vals,env,tm,_,he,_,_=>⟨by simpa [putL] using he,by simp⟩
 | [],_ :: _,_,_,_,_,_,h,_=>by simp at h
 | _ :: _,[],_,_,_,_,_,h,_=>by simp at h
 | p :: ps,v :: args,[],_,_,h,_,_,_=>h.elim
 | p :: ps,v :: args,c :: vals,env,tm,⟨h1,h2⟩,he,hl,hp=>by
  simp only [putL,List.zip_cons_cons,List.foldl_cons]
  have he':EnvR g ((p,v) :: env) (tm.setIfInBounds p c):=by
   intro n u e
   by_cases hn:p = n
   ·subst hn
    rw [find_cons_same] at e
    cases e
    have:(tm.setIfInBounds p c).getD p undef = c:=by
     rw [Array.getD_eq_getD_getElem?,Array.getElem?_setIfInBounds_self_of_lt (hp p (by simp))]; rfl
    rw [this]
    exact h1
   ·rw [find_cons_other _ _ hn] at e
    have:(tm.setIfInBounds p c).getD n undef = tm.getD n undef:=by
     rw [Array.getD_eq_getD_getElem?,Array.getD_eq_getD_getElem?,Array.getElem?_setIfInBounds_ne hn]
    rw [this]
    exact he n u e
  have:=putL_ok (env:=(p,v) :: env) (tm:=tm.setIfInBounds p c) h2 he' (by simpa using hl) (fun q hq=>by rw [Array.size_setIfInBounds]; exact hp q (by simp [hq]))
  exact ⟨this.1,by rw [this.2,Array.size_setIfInBounds]⟩
theorem zip_foldl (ps:List Nat) (vals:Array Value) (tm:Array Value) :
  (ps.toArray.zip vals).foldl (fun t (x:Nat × Value)=>t.setIfInBounds x.1 x.2) tm = (ps.zip vals.toList).foldl (fun t x=>t.setIfInBounds x.1 x.2) tm:=by
 rw [← Array.foldl_toList,Array.toList_zip]
theorem rangesOf_n {nt:Nat}:∀ {c:Code} {x:Nat × LCode},x∈rangesOf nt c→x.2.n = nt:=by
 intro c
 induction c with
 | seq a b iha ihb=>intro x h; simp only [rangesOf,List.mem_append] at h; exact h.elim iha ihb
 | cond q a b iha ihb=>intro x h; simp only [rangesOf,List.mem_append] at h; exact h.elim iha ihb
 | block id c ih=>intro x h; exact ih h
 | loop c ih=>intro x h; exact ih h
 | rangeFunc q ps a b iha ihb=>intro x h; simp only [rangesOf,List.mem_singleton] at h; subst h; rfl
 | _=>intro x h; simp [rangesOf] at h
theorem rangesOf_dsts {nt:Nat}:∀ {c:Code} {x:Nat × LCode},dstsOk nt c = true→x∈rangesOf nt c→(∀ p∈x.2.ps,p < nt)∧dstsOk nt x.2.assign = true∧dstsOk nt x.2.body = true:=by
 intro c
 induction c with
 | seq a b iha ihb=>intro x hd h; simp only [rangesOf,List.mem_append] at h; simp only [dstsOk,Bool.and_eq_true] at hd; exact h.elim (iha hd.1) (ihb hd.2)
 | cond q a b iha ihb=>intro x hd h; simp only [rangesOf,List.mem_append] at h; simp only [dstsOk,Bool.and_eq_true] at hd; exact h.elim (iha hd.1) (ihb hd.2)
 | block id c ih=>intro x hd h; exact ih hd h
 | loop c ih=>intro x hd h; exact ih hd h
 | rangeFunc q ps a b iha ihb =>
  intro x hd h
  simp only [rangesOf,List.mem_singleton] at h
  subst h
  simp only [dstsOk,Bool.and_eq_true,List.all_eq_true] at hd
  exact ⟨fun p hp=>Nat.le_of_ble_eq_true (hd.1 p hp),hd.2.1,hd.2.2⟩
 | _=>intro x _ h; simp [rangesOf] at h
theorem rangesOf_draws {tot:List Nat} {nt:Nat}:∀ {c:Code} {x:Nat × LCode},drawsOk tot c = true→x∈rangesOf nt c→drawsOk tot x.2.assign = true∧drawsOk tot x.2.body = true:=by
 intro c
 induction c with
 | seq a b iha ihb=>intro x hd h; simp only [rangesOf,List.mem_append] at h; simp only [drawsOk,Bool.and_eq_true] at hd; exact h.elim (iha hd.1) (ihb hd.2)
 | cond q a b iha ihb=>intro x hd h; simp only [rangesOf,List.mem_append] at h; simp only [drawsOk,Bool.and_eq_true] at hd; exact h.elim (iha hd.1) (ihb hd.2)
 | block id c ih=>intro x hd h; exact ih hd h
 | loop c ih=>intro x hd h; exact ih hd h
 | rangeFunc q ps a b iha ihb =>
  intro x hd h
  simp only [rangesOf,List.mem_singleton] at h
  subst h
  simp only [drawsOk,Bool.and_eq_true] at hd
  exact hd
 | _=>intro x _ h; simp [rangesOf] at h
theorem rangesOf_loops {nt:Nat}:∀ {c:Code} {x:Nat × LCode},x∈rangesOf nt c→(∀ b∈loopsOf x.2.assign,b∈loopsOf c)∧(∀ b∈loopsOf x.2.body,b∈loopsOf c):=by
 intro c
 induction c with
 | seq a b iha ihb =>
  intro x h
  simp only [rangesOf,List.mem_append] at h
  simp only [loopsOf,List.mem_append]
  rcases h with h | h
  ·exact ⟨fun b hb=>.inl ((iha h).1 b hb),fun b hb=>.inl ((iha h).2 b hb)⟩
  ·exact ⟨fun b hb=>.inr ((ihb h).1 b hb),fun b hb=>.inr ((ihb h).2 b hb)⟩
 | cond q a b iha ihb =>
  intro x h
  simp only [rangesOf,List.mem_append] at h
  simp only [loopsOf,List.mem_append]
  rcases h with h | h
  ·exact ⟨fun b hb=>.inl ((iha h).1 b hb),fun b hb=>.inl ((iha h).2 b hb)⟩
  ·exact ⟨fun b hb=>.inr ((ihb h).1 b hb),fun b hb=>.inr ((ihb h).2 b hb)⟩
 | block id c ih=>intro x h; exact ih h
 | loop c ih=>intro x h; simp only [loopsOf,List.mem_cons]; exact ⟨fun b hb=>.inr ((ih h).1 b hb),fun b hb=>.inr ((ih h).2 b hb)⟩
 | rangeFunc q ps a b iha ihb =>
  intro x h
  simp only [rangesOf,List.mem_singleton] at h
  subst h
  simp only [loopsOf,List.mem_append]
  exact ⟨fun b hb=>.inl hb,fun b hb=>.inr hb⟩
 | _=>intro x h; simp [rangesOf] at h
theorem find_mem {α:Type}:∀ {l:List (Nat × α)} {k:Nat} {v:α},find l k = some v→(k,v)∈l
 | [],_,_,h=>nomatch h
 | (j,u) :: l,k,v,h=>by
  by_cases hj:j = k
  ·subst hj; rw [find_cons_same] at h; cases h; simp
  ·rw [find_cons_other _ _ hj] at h; simp [find_mem h]
theorem mem_find {α:Type}:∀ {l:List (Nat × α)} {k:Nat} {v:α},idsOk (l.map (·.1)) = true→(k,v)∈l→find l k = some v
 | [],_,_,_,h=>nomatch h
 | (j,u) :: l,k,v,hi,h=>by
  simp only [List.map_cons,idsOk,Bool.and_eq_true,Bool.not_eq_true'] at hi
  rcases List.mem_cons.1 h with e | h
  ·cases e; rw [find_cons_same]
  ·have hj:j ≠ k:=by
    intro e
    subst e
    have:(l.map (·.1)).contains j = true:=List.contains_iff_mem.2 (List.mem_map.2 ⟨(j,v),h,rfl⟩)
    rw [this] at hi
    cases hi.1
   rw [find_cons_other _ _ hj]
   exact mem_find hi.2 h
theorem isYld_ok {env:Env} {b:Nat} (h:isYld env b = true):find env 0 = some (.yld b):=by
 unfold isYld at h
 split at h
 ·rename_i c hc; rw [hc,Nat.eq_of_beq_eq_true h]
 ·cases h
theorem yld_blk {g:Gh} {b l:Nat} {c:Value} (h:VR g (.yld b) c) (he:c = .func (.yield l) #[] #[]):∃ gb,g.bx b = some gb∧gb.isRow = false∧gb.blk = some l:=by
 obtain ⟨gb,l',e1,e2,e3,e4⟩:=h
 rw [he] at e4
 simp only [List.cons.injEq,and_true,Value.func.injEq,Fn.yield.injEq] at e4
 subst e4
 exact ⟨gb,e1,e2,e3⟩
end
end Go.V
namespace Go.V
variable [Codes]
section
variable {P:Program} {E:Env0}
def Ex.to:Ex→Exit
 | .normal=>.normal
 | .exit id=>.exit id
 | .ret=>.ret
 | .pan p=>.panic [Pan.entry p]
theorem dstsOk_mono {n m:Nat} (h:n≤m):∀ {c:Code},dstsOk n c = true→dstsOk m c = true:=by
 have one:∀ o:Oper,dstOk n o = true→dstOk m o = true:=by
  intro o ho
  unfold dstOk at ho ⊢
  split
  ·rename_i d hd
   rw [hd] at ho
   have:d < n:=Nat.le_of_ble_eq_true ho
   exact Nat.ble_eq_true_of_le (Nat.le_trans this h)
  ·rfl
 intro c
 induction c with
 | region id ops dr =>
  intro hc
  simp only [dstsOk,List.all_eq_true] at hc ⊢
  exact fun o ho=>one o (hc o ho)
 | seq a b iha ihb=>intro hc; simp only [dstsOk,Bool.and_eq_true] at hc ⊢; exact ⟨iha hc.1,ihb hc.2⟩
 | cond x a b iha ihb=>intro hc; simp only [dstsOk,Bool.and_eq_true] at hc ⊢; exact ⟨iha hc.1,ihb hc.2⟩
 | block id c ih=>exact fun hc=>ih hc
 | loop c ih=>exact fun hc=>ih hc
 | rangeFunc q ps a b iha ihb =>
  intro hc
  simp only [dstsOk,Bool.and_eq_true,List.all_eq_true] at hc ⊢
  exact ⟨fun p hp=>Nat.ble_eq_true_of_le (Nat.le_trans (Nat.le_of_ble_eq_true (hc.1 p hp)) h),iha hc.2.1,ihb hc.2.2⟩
 | _=>intro _; rfl
abbrev Post {R:Type} (Q:Exit→Act→World→Prop) (K:Ex→St→Option R) (r:R) (N:Nat→Prop) (g:Gh) (tms:List (Array Value)) (w:World) (n:Nat):Prop :=
 ∀ (e:Ex) (s':St) (tm':Array Value) (g':Gh) (w':World) (ds':List Deferred),K e s' = some r→StR g' s' tm' (dfs ds'++tms) w'→Tr g w g' w'→tm'.size = n→Mk N g' w' ds'→Q e.to ⟨tm',ds'⟩ w'
theorem rangeEnd_ok {F : Fence} {M n l0 key : Nat} {N : Nat → Prop} {R : Type} {K : Ex → St → Option R} {r : R} {g g1 : Gh} {tm : Array Value} {tms : List (Array Value)} {w W1 : World} {Q : Exit → Act → World → Prop} {ds1 : List Deferred}
    {s' : St} {g' : Gh} {w' : World}
    (hk : (match s'.stk, find s'.bxs key with
      | env :: stk, some (.loop false _ _ _) => bif isYld s'.env key then K .normal { env := env, stk := stk, bxs := setB s'.bxs key .dead } else none
      | _, _ => none) = some r)
    (hs' : StR g' s' #[.func (.yield l0) #[] #[]] (tm :: (dfs ds1 ++ tms)) w') (t1 : Tr g w g1 W1) (t2 : Tr g1 W1 g' w') (hn : tm.size = n) (hm1 : Mk N g1 W1 ds1) (hQ : Post Q K r N g tms w n) :
    ∃ jump w4, (Instr.endLoop l0).run P w' = .ok jump w4 ∧ (match jump with | none => Q .normal ⟨tm, ds1⟩ w4 | some c => c.wpIn F M P Q ⟨tm, ds1⟩ w4) := by
  split at hk
  · rename_i env stk f1 i1 env1 hst hbx
    cases hy : isYld s'.env key with
    | false => rw [hy] at hk; cases hk
    | true =>
      rw [hy, cond_true] at hk
      have hv := hs'.env 0 _ (isYld_ok hy)
      obtain ⟨gb1, q1, q2, q3⟩ := yld_blk hv rfl
      obtain ⟨gb2, p1, p2⟩ := hs'.bxs.box _ _ hbx
      rw [q1] at p1
      cases p1
      obtain ⟨p3, p4, l, tm2, D, fn2, cd2, p5, p6, p7, p8, p9, p10⟩ := p2
      rw [q3] at p5
      cases p5
      obtain ⟨w3, hw3⟩ : ∃ w3, w'.putObj l0 (.loop { state := .exhausted, pending := none, fn := fn2, tmps := tm2, params := cd2.ps.toArray, assign := cd2.assign, body := cd2.body, defers := D }) = w3 := ⟨_, rfl⟩
      have hlt := (Array.getElem?_eq_some_iff.1 p7).1
      obtain ⟨hs3, t3⟩ := hs'.upd q1 q3 p4 p10 (w' := w3) (by rw [← hw3]; rfl) (by rw [← hw3]; rfl) (by rw [← hw3]; rfl) (by rw [← hw3]; simp [World.putObj]) (fun b hb _ => by rw [← hw3]; exact World.putObj_heap_other hb) .dead
        ⟨p3, p4, _, _, q3, by rw [← hw3]; exact World.putObj_heap_same hlt, p10⟩
      refine ⟨none, w3, ?_, ?_⟩
      · rw [← hw3]; exact run_endLoop p7 (by simp)
      · have hstk := hs3.stk
        simp only [Eff.apply, hst] at hstk
        exact hQ .normal _ tm g' w3 _ hk ⟨hstk.1, hstk.2, hs3.bxs, hs3.fz⟩ (t1.trans (t2.trans t3)) hn ((hm1.tr t2).tr t3)
  · cases hk
theorem range_ok (hE : EnvOK P E) {F : Fence} (hW : Wide F) {M nt : Nat} {N : Nat → Prop} {d f base n : Nat} (hI : ∀ R : Type, InlOK (R := R) P E (inlineC E d)) (hnt : nt ≤ n) {q : Operand} {ps : Array Tmp} {a b : Code} (hround : F.round = none) (hcd : Codes.cd f (rid a b) = some ⟨ps.toList, a, b, nt⟩)
    {R : Type} {K : Ex → St → Option R} {r : R} {g : Gh} {s : St} {tm : Array Value} {tms : List (Array Value)} {w : World} {Q : Exit → Act → World → Prop} {ds : List Deferred}
    (h : runC E (inlineC E d) d f base (.rangeFunc q ps a b) s K = some r) (hs : StR g s tm (dfs ds ++ tms) w) (hG : GlobOK E.C g.fz) (hn : tm.size = n) (hm : Mk N g w ds) (hN : ∀ r, w.heap.size ≤ r → N r)
    (hQ : Post Q K r N g tms w n) : (Code.rangeFunc q ps a b).wpIn F M P Q ⟨tm, ds⟩ w := by
  simp only [runC] at h
  split at h
  · rename_i f' caps hq
    obtain ⟨cv, hcv, hcaps⟩ := ev_ok hs hG hq ds
    simp only [List.cons.injEq, and_true] at hcv
    split at h
    · rename_i hfree
      obtain ⟨hent, hcall⟩ := (hI R).fn _ _ _ _ _ _ _ h
      refine wpIn_rangeFunc ?_
      intro fn hfn
      rw [hround]
      obtain ⟨rec, hrec⟩ : ∃ rec : LoopState → Loop, rec = fun st => { state := st, pending := none, fn, tmps := tm, params := ps, assign := a, body := b, defers := w.heap.size } := ⟨_, rfl⟩
      obtain ⟨W1, hW1⟩ : ∃ W1, (w.alloc (.deferred (some []))).alloc (.loop (rec .ready)) = W1 := ⟨_, rfl⟩
      have hL1 : W1.heap[w.heap.size + 1]? = some (.loop (rec .ready)) := by
        rw [← hW1]; have := World.alloc_heap_new (w.alloc (.deferred (some []))) (.loop (rec .ready)); rwa [World.size_alloc] at this
      have hK1 : W1.heap[w.heap.size]? = some (.deferred (some [])) := by
        rw [← hW1]; exact ((World.grownBy_alloc (w.alloc (.deferred (some []))) (.loop (rec .ready)) none).block _ (by simp) (by simp)).trans (World.alloc_heap_new w _)
      have hgrow : w.grownBy W1 none := by
        rw [← hW1]
        have h1 := World.grownBy_alloc w (.deferred (some [])) none
        have h2 := World.grownBy_alloc (w.alloc (.deferred (some []))) (.loop (rec .ready)) none
        exact ⟨h2.os.trans h1.os, h2.tape.trans h1.tape, h2.output.trans h1.output, Nat.le_trans h1.size h2.size, fun k hk hne => (h2.block k (Nat.lt_of_lt_of_le hk h1.size) hne).trans (h1.block k hk hne)⟩
      obtain ⟨key, hkey⟩ : ∃ key, key = loopKey base a b := ⟨_, rfl⟩
      rw [← hkey] at h hfree hcall
      obtain ⟨gb, hgb⟩ : ∃ gb : Gb, gb = ⟨false, true, some (w.heap.size + 1), 0, 0, 0, 0, none⟩ := ⟨_, rfl⟩
      have hnf : ∀ o, g.fz (w.heap.size + 1) o = none := fun o => by
        cases e : g.fz (w.heap.size + 1) o with
        | none => rfl
        | some v => have := hs.fz.lt (b := w.heap.size + 1) (o := o) (by rw [e]; simp); omega
      have hx0 := ext_put gb (hs.bxs.none hfree)
      have hbox : BoxR (g.put key gb) (.loop false f (rid a b) s.env) gb W1 := by
        refine ⟨by rw [hgb], by rw [hgb], w.heap.size + 1, tm, w.heap.size, fn, ⟨ps.toList, a, b, nt⟩, by rw [hgb], hcd, ?_, hs.env.grow hx0, (by show nt ≤ tm.size; omega), hnf⟩
        rw [hL1, hrec]
        simp
      obtain ⟨hs1, t1, hx1⟩ := hs.add hfree hgrow _ gb hbox (fun blk e1 _ => by rw [hgb] at e1; cases e1; omega)
      have hyld : VR (g.put key gb) (.yld key) (.func (.yield (w.heap.size + 1)) #[] #[]) := ⟨gb, w.heap.size + 1, Gh.put_same _ _ _, by rw [hgb], by rw [hgb], rfl⟩
      have hs2 : StR (g.put key gb) { env := [(0, .yld key)], stk := s.env :: s.stk, bxs := (key, .loop false f (rid a b) s.env) :: s.bxs } #[.func (.yield (w.heap.size + 1)) #[] #[]] (tm :: (dfs ds ++ tms)) W1 := by
        refine ⟨fun n v e => ?_, ⟨hs1.env, hs1.stk⟩, hs1.bxs, hs1.fz⟩
        by_cases hn0 : 0 = n
        · subst hn0
          rw [find_cons_same] at e
          cases e
          exact hyld
        · rw [find_cons_other _ _ hn0] at e; cases e
      have hm1 : Mk N (g.put key gb) W1 ({ target := .collected w.heap.size, args := #[] } :: ds) := by
        have hm0 := hm.tr t1
        refine ⟨fun d hd => ?_, List.pairwise_cons.2 ⟨fun d hd r e1 e2 => ?_, hm0.apart⟩⟩
        · rcases List.mem_cons.1 hd with rfl | hd
          · refine .inl ⟨w.heap.size, rfl, hN _ (Nat.le_refl _), hK1, ?_⟩
            rintro ⟨k, gb', e1, e2, e3⟩
            by_cases hk : k = key
            · subst hk
              rw [Gh.put_same] at e1
              cases e1
              rw [hgb] at e2
              simp at e2
            · rw [Gh.put_other _ _ hk] at e1
              have := hs.bxs.lt ⟨k, gb', e1, e2, e3⟩
              omega
          · exact hm0.mem d hd
        · simp only [Target.collected.injEq] at e1
          subst e1
          rcases hm.mem d hd with ⟨r', rfl, _, e4, _⟩ | ⟨f, cap, args, rfl⟩
          · simp only [Target.collected.injEq] at e2
            subst e2
            have := (Array.getElem?_eq_some_iff.1 e4).1
            omega
          · cases e2
      refine ⟨w.heap.size + 1, [{ target := .collected w.heap.size, args := #[] }], W1, { target := .fn (.func f') cv, args := #[.func (.yield (w.heap.size + 1)) #[] #[]] }, W1, f',
        #[.func (.yield (w.heap.size + 1)) #[] #[]] ++ cv, W1, ?_, ?_, fun f2 _ => hW.fn f2, ?_, hW.deep M, ?_⟩
      · rw [← hW1, hrec]; exact run_enterLoop_outer _ _ _ _ _
      · simp only [resolve, hcv]
        simp [go_sem]
      · simp only [invoke]
        exact run_callFunc hent _ _
      · have hvs : VsR (g.put key gb) (.yld key :: caps) ((#[Value.func (.yield (w.heap.size + 1)) #[] #[]] : Array Value) ++ cv).toList := by
          rw [Array.toList_append]
          exact ⟨hyld, (hcaps.vsR).grow' hx1⟩
        have hc := hcall (g.put key gb) #[.func (.yield (w.heap.size + 1)) #[] #[]] (tm :: (dfs ds ++ tms)) W1 (#[.func (.yield (w.heap.size + 1)) #[] #[]] ++ cv) hs2 (hG.mono t1.fz) hvs
        refine hW.calls.2 (Calls.mono hc ?_)
        rintro e w' (⟨v, av, s', g', rfl, hk, _, hs', t2⟩ | ⟨p, s', g', rfl, hk, _⟩)
        · exact rangeEnd_ok (ds1 := { target := .collected w.heap.size, args := #[] } :: ds) hk hs' t1 t2 hn hm1 hQ
        · cases hk
    · cases h
  · cases h
theorem runC_ok (hE : EnvOK P E) {F : Fence} (hW : Wide F) {M nt : Nat} {N : Nat → Prop} {d f base n : Nat} (hI : ∀ R : Type, InlOK (R := R) P E (inlineC E d)) (hnt : nt ≤ n) : ∀ (c : Code), dstsOk n c = true → drawsOk (E.totOf f) c = true →
    (∀ b ∈ loopsOf c, ∀ l, findL E.L ⟨d, base, f, firstRegion b⟩ = some l → LoopOK E d f base b l) → (F.round = none ∨ noRange (E.totOf f) c = true) → (∀ x ∈ rangesOf nt c, Codes.cd f x.1 = some x.2) →
    ∀ {R : Type} {K : Ex → St → Option R} {r : R} {g : Gh} {s : St} {tm : Array Value} {tms : List (Array Value)} {w : World} {Q : Exit → Act → World → Prop} {ds : List Deferred},
      runC E (inlineC E d) d f base c s K = some r → StR g s tm (dfs ds ++ tms) w → GlobOK E.C g.fz → tm.size = n → Mk N g w ds → ((∀ r, w.heap.size ≤ r → N r) ∨ noRange (E.totOf f) c = true) →
      Post Q K r N g tms w n → c.wpIn F M P Q ⟨tm, ds⟩ w := by
  intro c
  induction c with
  | skip => intro _ _ _ _ _ R K r g s tm tms w Q ds h hs hG hn hm hN hQ; exact wpIn_skip (hQ .normal s tm g w ds h hs (Tr.refl _ _) hn hm)
  | region id ops dr =>
    intro hd hw _ hro _ R K r g s tm tms w Q ds h hs hG hn hm hN hQ
    cases dr with
    | true =>
      simp only [runC, cond_true] at h
      simp only [drawsOk, Bool.not_true, Bool.false_or] at hw
      cases htot : (E.totOf f).contains id with
      | true =>
       rw [htot, cond_true] at h hw
       have hr0 : F.round = none := hro.resolve_right (by simp only [noRange, htot]; simp)
       have ht : Tr g w g w.drew := Tr.grow ⟨rfl, rfl, rfl, Nat.le_refl _, fun _ _ _ => rfl⟩
       simp only [Bool.and_eq_true] at hw
       have hDp : ∀ i x, ops[i]? = some x → ∀ j ∈ V.deps x, j < i := fun i x hx j hj => by
         have := depsOk_get (ops := ops) hw.2 i x (by rw [Array.getElem?_toList]; exact hx) j hj
         omega
       have hno : ∀ j, ¬ Done (Array.replicate ops.size false) j := by
         intro j h
         unfold Done at h
         simp only [Array.getD_eq_getD_getElem?, Array.getElem?_replicate] at h
         split at h <;> simp at h
       refine Go.wpIn_mono (wpIn_region_any hE.mixed (wpAnyX.plain _ (runTot_ok hE hW hr0 (hI R) hw.1 hDp hd (ds := ds) (T' := tms) (Q := Q) _ _ _ none none [] h (hs.grow (w' := w.drew) (fun _ _ => rfl)) rfl hG hn (fun s' tm' g' w' a b c d => hQ .normal s' tm' g' w' ds a b (ht.trans c.tr) d (hm.tr (ht.trans c.tr))) (fun p s' tm' g' w' a b c d => hQ (.pan p) s' tm' g' w' ds a b (ht.trans c.tr) d (hm.tr (ht.trans c.tr))) (by simp) (fun k _ _ hk => absurd hk (hno k)) (fun _ h => nomatch h) (fun _ h => nomatch h) _ (by simp [left, List.countP_replicate])))) (fun _ _ _ h => h.imp)
      | false =>
      rw [htot, cond_false] at h hw
      exact region_ok hE hW (hI R) hE.mixed hw hd rfl h hs hG hn (fun s' tm' g' w' a b c d => hQ .normal s' tm' g' w' ds a b c d (hm.tr c)) (fun p s' tm' g' w' a b c d => hQ (.pan p) s' tm' g' w' ds a b c d (hm.tr c))
    | false =>
      simp only [runC, cond_false] at h
      refine wpIn_region ?_
      have := runOps_ok hE hW (hI R) (N := M) (n := n) (Q := Q) (K := K) ops.toList 0 rfl hd (hro.imp (fun h => h) (fun h => by simp only [noRange, Bool.and_eq_true] at h; exact h.1)) h hs hG hn (fun s' tm' g' w' ds' a b c d e => hQ .normal s' tm' g' w' ds' a b c d ((hm.go e).tr c)) (fun p s' tm' g' w' ds' a b c d e => hQ (.pan p) s' tm' g' w' ds' a b c d ((hm.go e).tr c))
      rw [Array.length_toList] at this
      rw [List.range_eq_range']
      exact this
  | seq a b iha ihb =>
    intro hd hw hl hro hcd R K r g s tm tms w Q ds h hs hG hn hm hN hQ
    simp only [dstsOk, Bool.and_eq_true] at hd
    simp only [drawsOk, Bool.and_eq_true] at hw
    simp only [runC] at h
    simp only [noRange, Bool.and_eq_true] at hro hN
    refine wpIn_seq (iha hd.1 hw.1 (fun b' hb' => hl b' (by simp [loopsOf, hb'])) (hro.imp id (·.1)) (fun x hx => hcd x (by simp [rangesOf, hx])) h hs hG hn hm (hN.imp id (·.1)) ?_)
    intro e s' tm' g' w' ds' hk hs' ht hn' hm'
    cases e with
    | normal => exact ihb hd.2 hw.2 (fun b' hb' => hl b' (by simp [loopsOf, hb'])) (hro.imp id (·.2)) (fun x hx => hcd x (by simp [rangesOf, hx])) hk hs' (hG.mono ht.fz) hn' hm' (hN.imp (fun h r hr => h r (Nat.le_trans ht.size hr)) (·.2)) (fun e s2 tm2 g2 w2 ds2 a b c d m => hQ e s2 tm2 g2 w2 ds2 a b (ht.trans c) d m)
    | exit id => exact hQ (.exit id) s' tm' g' w' ds' hk hs' ht hn' hm'
    | ret => exact hQ .ret s' tm' g' w' ds' hk hs' ht hn' hm'
    | pan p => exact hQ (.pan p) s' tm' g' w' ds' hk hs' ht hn' hm'
  | cond x a b iha ihb =>
    intro hd hw hl hro hcd R K r g s tm tms w Q ds h hs hG hn hm hN hQ
    simp only [dstsOk, Bool.and_eq_true] at hd
    simp only [drawsOk, Bool.and_eq_true] at hw
    simp only [noRange, Bool.and_eq_true] at hro hN
    simp only [runC] at h
    split at h
    · rename_i t hx
      have hcv : [Act.eval ⟨tm, ds⟩ x] = [Value.bool t] := ev_ok hs hG hx ds
      simp only [List.cons.injEq, and_true] at hcv
      cases t
      · exact wpIn_cond_false hcv (ihb hd.2 hw.2 (fun b' hb' => hl b' (by simp [loopsOf, hb'])) (hro.imp id (·.2)) (fun x hx => hcd x (by simp [rangesOf, hx])) h hs hG hn hm (hN.imp id (·.2)) hQ)
      · exact wpIn_cond_true hcv (iha hd.1 hw.1 (fun b' hb' => hl b' (by simp [loopsOf, hb'])) (hro.imp id (·.1)) (fun x hx => hcd x (by simp [rangesOf, hx])) h hs hG hn hm (hN.imp id (·.1)) hQ)
    · cases h
  | block id c ih =>
    intro hd hw hl hro hcd R K r g s tm tms w Q ds h hs hG hn hm hN hQ
    simp only [runC] at h
    refine wpIn_block (ih hd hw hl hro hcd h hs hG hn hm hN ?_)
    intro e s' tm' g' w' ds' hk hs' ht hn' hm'
    cases e with
    | normal => exact hQ .normal s' tm' g' w' ds' hk hs' ht hn' hm'
    | ret => exact hQ .ret s' tm' g' w' ds' hk hs' ht hn' hm'
    | pan p => exact hQ (.pan p) s' tm' g' w' ds' hk hs' ht hn' hm'
    | exit i =>
      simp only [Ex.to, Exit.inBlock]
      by_cases hi : i = id
      · subst hi
        rw [if_pos rfl]
        simp only [Nat.beq_refl, cond_true] at hk
        exact hQ .normal s' tm' g' w' ds' hk hs' ht hn' hm'
      · rw [if_neg hi]
        simp only [beq_false hi, cond_false] at hk
        exact hQ (.exit i) s' tm' g' w' ds' hk hs' ht hn' hm'
  | loop c ih =>
    intro hd hw hl hro hcd R K r g s tm tms w Q ds h hs hG hn hm hN hQ
    simp only [runC] at h
    split at h
    · rename_i l hfl
      obtain ⟨hok, step, h1, h2, h3⟩ := hl c (by simp [loopsOf]) l hfl
      simp only [LSpec.ok, Bool.and_eq_true] at hok
      unfold runLoop at h
      split at h
      · rename_i s1 hth
        obtain ⟨g1, hs1, t1⟩ := thawAll_ok hs hth
        obtain ⟨x, g2, h4, hs2, t2⟩ := dec_ok hok.1 hs1 h
        rw [Option.bind_eq_some_iff] at h4
        obtain ⟨o, ho, hK⟩ := h4
        obtain ⟨k0, hk0⟩ := h1 x o ho
        refine wpIn_loop_ghost (fun k a w1 => ∃ x g1, step k x = some o ∧ StR g1 (l.head.enc x) a.tmps (dfs a.defers ++ tms) w1 ∧ Tr g w g1 w1 ∧ a.tmps.size = n ∧ Mk N g1 w1 a.defers) k0 ⟨x, g2, hk0, hs2, t1.trans t2, hn, hm.tr (t1.trans t2)⟩ ?_
        rintro k ⟨tm1, ds1⟩ w1 ⟨x1, g3, hx1, hs3, t3, hn1, hm1⟩
        simp only at hs3 hn1 hm1
        cases k with
        | zero => rw [h2] at hx1; cases hx1
        | succ k =>
          have hb := h3 k x1 o hx1
          unfold runB at hb
          refine ih hd hw (fun b' hb' => hl b' (by simp [loopsOf, hb'])) hro hcd hb hs3 (hG.mono t3.fz) hn1 hm1 (hN.imp (fun h r hr => h r (Nat.le_trans t3.size hr)) id) ?_
          intro e s' tm' g' w' ds' hk hs' ht hn' hm'
          have out : ∀ e : Ex, decOut e s' l.outs = some o → Q e.to ⟨tm', ds'⟩ w' := by
            intro e hk
            obtain ⟨A, y, g4, h5, h6, h7⟩ := decOut_ok hs' hok.2 hk
            rw [h5] at hK
            exact hQ e _ tm' g4 w' ds' hK h6 ((t3.trans ht).trans h7) hn' (hm'.tr h7)
          cases e with
          | normal =>
            obtain ⟨x2, g4, h5, h6, h7⟩ := dec_ok hok.1 hs' hk
            exact ⟨k, Nat.lt_succ_self k, x2, g4, h5, h6, (t3.trans ht).trans h7, hn', hm'.tr h7⟩
          | exit i => exact out (.exit i) hk
          | ret => exact out .ret hk
          | pan p => exact out (.pan p) hk
      · cases h
    · -- round by round
      refine wpIn_loop_ghost (fun k a w1 => ∃ s1 g1, unroll (fun s K => runC E (inlineC E d) d f base c s K) k s1 K = some r ∧ StR g1 s1 a.tmps (dfs a.defers ++ tms) w1 ∧ Tr g w g1 w1 ∧ a.tmps.size = n ∧ Mk N g1 w1 a.defers) E.fuel ⟨s, g, h, hs, Tr.refl _ _, hn, hm⟩ ?_
      rintro k ⟨tm1, ds1⟩ w1 ⟨s1, g3, hx1, hs3, t3, hn1, hm1⟩
      simp only at hs3 hn1 hm1
      cases k with
      | zero => cases hx1
      | succ k =>
        refine ih hd hw (fun b' hb' => hl b' (by simp [loopsOf, hb'])) hro hcd hx1 hs3 (hG.mono t3.fz) hn1 hm1 (hN.imp (fun h r hr => h r (Nat.le_trans t3.size hr)) id) ?_
        intro e s' tm' g' w' ds' hk hs' ht hn' hm'
        cases e with
        | normal => exact ⟨k, Nat.lt_succ_self k, s', g', hk, hs', t3.trans ht, hn', hm'⟩
        | exit i => exact hQ (.exit i) _ tm' g' w' ds' hk hs' (t3.trans ht) hn' hm'
        | ret => exact hQ .ret _ tm' g' w' ds' hk hs' (t3.trans ht) hn' hm'
        | pan p => exact hQ (.pan p) _ tm' g' w' ds' hk hs' (t3.trans ht) hn' hm'
  | exit id => intro _ _ _ _ _ R K r g s tm tms w Q ds h hs hG hn hm hN hQ; exact wpIn_exit (hQ (.exit id) s tm g w ds h hs (Tr.refl _ _) hn hm)
  | ret => intro _ _ _ _ _ R K r g s tm tms w Q ds h hs hG hn hm hN hQ; exact wpIn_ret (hQ .ret s tm g w ds h hs (Tr.refl _ _) hn hm)
  | rangeFunc q ps a b =>
    intro hd hw hl hro hcd R K r g s tm tms w Q ds h hs hG hn hm hN hQ
    exact range_ok hE hW hI hnt (hro.resolve_right (fun h => nomatch h)) (hcd (rid a b, ⟨ps.toList, a, b, nt⟩) (by simp [rangesOf])) h hs hG hn hm (hN.resolve_right (fun h => nomatch h)) hQ
  | scope c => intro _ _ _ _ _ R K r g s tm tms w Q ds h; simp [runC] at h
  | label l => intro _ _ _ _ _ R K r g s tm tms w Q ds h; simp [runC] at h
  | goto l => intro _ _ _ _ _ R K r g s tm tms w Q ds h; simp [runC] at h
  | refuse l => intro _ _ _ _ _ R K r g s tm tms w Q ds h; simp [runC] at h
def resOne (tm:Array Value):ResultVar→Sem Value
 | .tmp t=>pure (tm.getD t undef)
 | .cell a t=>do loadVar t (← asAddr (tm.getD a undef))
theorem results_ok (hC:CfgOK E.C P) {g:Gh} {s:St} {tm:Array Value} {tms:List (Array Value)} {w:World} (hs:StR g s tm tms w):∀ {l:List ResultVar} {vs:List AV},resOf E.C s l = some vs →
  ∃ cs,(l.mapM (resOne tm)).run P w = .ok cs w∧VsR g vs cs∧vs.all AV.okGs = true
 | [],vs,h=>by
  simp only [resOf,Option.some.injEq] at h
  subst h
  exact ⟨[],rfl,trivial,rfl⟩
 | .tmp t :: l,vs,h=>by
  simp only [resOf] at h
  split at h
  ·rename_i v hv
   cases hk:v.okGs
   ·rw [hk] at h; cases h
   ·rw [hk] at h
    simp only [cond_true,Option.map_eq_some_iff] at h
    obtain ⟨r,hr,rfl⟩:=h
    obtain ⟨cs,h1,h2,h3⟩:=results_ok hC hs hr
    refine ⟨tm.getD t undef :: cs,?_,⟨hs.env t v hv,h2⟩,by simp [hk,h3]⟩
    have h6:(resOne tm (.tmp t)).run P w = .ok (tm.getD t undef) w:=rfl
    rw [List.mapM_cons,Sem.run_bind,h6,Result.andThen_ok,Sem.run_bind,h1]
    rfl
  ·cases h
 | .cell a t :: l,vs,h=>by
  simp only [resOf] at h
  split at h
  ·rename_i p hp
   split at h
   ·rename_i c v e hv
    cases hk:v.okGs
    ·rw [hk] at h; cases h
    ·rw [hk] at h
     simp only [cond_true,Option.map_eq_some_iff] at h
     obtain ⟨r,hr,rfl⟩:=h
     obtain ⟨cs,h1,h2,h3⟩:=results_ok hC hs hr
     obtain ⟨_,y,h4,h5⟩:=loadV_ok hC hs hv (hs.env a p hp)
     refine ⟨y :: cs,?_,⟨h5.vr',h2⟩,by simp [hk,h3]⟩
     have h6:(resOne tm (.cell a t)).run P w = .ok y w:=by
      show (do loadVar t (← asAddr (tm.getD a undef)):Sem Value).run P w = .ok y w
      have hpt:∃ ad,tm.getD a undef = .pointer (some ad):=by
       refine ptr_form (hs.env a p hp) ?_
       unfold loadV at hv
       split at hv <;> first | rfl | (cases hv)
      obtain ⟨ad,had⟩:=hpt
      rw [had] at h4 ⊢
      have e1:(Instr.sureAddr (.pointer (some ad))).run P w = .ok ad w:=rfl
      have e2:(asAddr (.pointer (some ad))).run P w = .ok ad w:=rfl
      unfold Instr.loadAt at h4
      rw [Sem.run_bind,e1] at h4
      rw [Sem.run_bind,e2]
      exact h4
     rw [List.mapM_cons,Sem.run_bind,h6,Result.andThen_ok,Sem.run_bind,h1]
     rfl
   ·cases h
  ·cases h
theorem run_results {fn:Func} {tm:Array Value} {w:World} {cs:List Value}
  (h:(fn.results.toList.mapM (resOne tm)).run P w = .ok cs w):(results fn tm).run P w = .ok (resVal cs) w:=by
 have e0:results fn tm = (do let vs ← fn.results.mapM (resOne tm); pure (if h:vs.size = 1 then vs[0] else .tuple vs)):=rfl
 rw [e0,Array.mapM_eq_mapM_toList,Sem.run_bind,Sem.run_map,h]
 simp only [Result.andThen_ok,Sem.run_pure]
 match cs with
 | []=>rfl
 | [c]=>rfl
 | c :: d :: l=>simp [resVal]
theorem envR_params {g:Gh} {args:List AV} {vals:Array Value} (h:VsR g args vals.toList) (k:Nat):EnvR g (params 0 args) (vals++Array.replicate k undef):=by
 intro n v e
 obtain ⟨i,e1,c,h1,h2⟩:=params_ok h n v e
 have:i = n:=by omega
 subst this
 have hlt:i < vals.size:=by
  rw [← Array.length_toList]
  exact (List.getElem?_eq_some_iff.1 h1).1
 rw [Array.getD_eq_getD_getElem?,Array.getElem?_append_left hlt,← Array.getElem?_toList,h1]
 exact h2
theorem enter_of (hE:EnvOK P E) {f:Nat} {fn:Func} (h:find E.F f = some fn):Enterable P f:=by
 obtain ⟨h1,h2⟩:=hE.func f fn h
 unfold funOk at h2
 split at h2
 ·rename_i c hc
  simp only [Bool.and_eq_true,Bool.not_eq_true'] at h2
  exact ⟨fn,h1,h2.2,by rw [hc]; rfl⟩
 ·cases h2
theorem funOk_of {tot:List Nat} {fn:Func} {c:Code} (h:funOk tot fn = true) (hb:fn.body = some c):dstsOk fn.ntmps c = true∧drawsOk tot c = true∧idsOk ((rangesOf fn.ntmps c).map (·.1)) = true:=by
 unfold funOk at h
 rw [hb] at h
 simp only [Bool.and_eq_true] at h
 exact ⟨h.1.1.1.1.1,h.1.1.1.1.2,h.1.1.2⟩
theorem codes_of (hE:EnvOK P E) {f:Nat} {fn:Func} {c:Code} (hf:find E.F f = some fn) (hb:fn.body = some c):∀ x∈rangesOf fn.ntmps c,Codes.cd f x.1 = some x.2:=by
 intro x hx
 rw [hE.codes f fn c hf hb]
 exact mem_find (funOk_of (hE.func f fn hf).2 hb).2.2 hx
theorem no_defers {g:Gh} {w:World} {ds:List Deferred} (h:Mk (fun _=>False) g w ds) {e:Env} {l:List Env} {tms:List (Array Value)} {b:Nat} (hs:StkR g (e :: l) (dfs ds++tms)) (hy:isYld e b = true):ds = []:=by
 cases ds with
 | nil=>rfl
 | cons d ds =>
  rcases h.mem d (by simp) with ⟨_,_,hf,_⟩ | ⟨f,cap,args,rfl⟩
  ·exact hf.elim
  ·obtain ⟨_,_,_,_,_,e1⟩:=hs.1 0 _ (isYld_ok hy)
   simp [frameOf] at e1
theorem round_ok (hE : EnvOK P E) {d base : Nat} (hI : ∀ R : Type, InlOK (R := R) P E (inlineC E d)) {R : Type} {b f id : Nat} {env : Env} {fn : Func} {c : Code} {cd : LCode} {args : List AV} {s : St} {K : AV → St → Option R} {r : R} {g : Gh} {tm : Array Value} {tms : List (Array Value)} {w : World} {l : Nat}
    (hf : find E.F f = some fn) (hb : fn.body = some c) (hx : (id, cd) ∈ rangesOf fn.ntmps c) (hna : noRange (E.totOf f) cd.assign = true) (hnb : noRange (E.totOf f) cd.body = true)
    (h : (runC E (inlineC E d) d f (base * 1000) cd.assign { env := putL cd.ps args env, stk := [(0, .yld b)] :: s.env :: s.stk, bxs := s.bxs } fun e s1 => match e, s1.stk, find s1.bxs b with
      | .normal, e0 :: _, some (.loop false f1 i1 env1) => bif isYld e0 b && (Nat.beq f1 f && Nat.beq i1 id) then
          runC E (inlineC E d) d f (base * 1000) cd.body { s1 with bxs := setB s1.bxs b (.loop true f id env1) } fun e s2 => match e, s2.stk, find s2.bxs b with
            | .normal, e1 :: env0 :: stk, some (.loop true f2 i2 env2) => bif isYld e1 b && (Nat.beq f2 f && Nat.beq i2 id) then K (.val .bool true) { env := env0, stk := stk, bxs := setB s2.bxs b (.loop false f id env2) } else none
            | _, _, _ => none
        else none
      | _, _, _ => none) = some r)
    {tm0 : Array Value} (he : EnvR g (putL cd.ps args env) tm0) (hn0 : fn.ntmps ≤ tm0.size) (hs : StR g s tm tms w) (hG : GlobOK E.C g.fz) (hy0 : VR g (.yld b) (.func (.yield l) #[] #[])) {F : Fence} {n : Nat} (hW : Wide F) (fr : FuncId) :
    RoundIn F n P l fr tm0 cd.assign cd.body w fun e w' => ∃ v av s' g', e = .returned v ∧ K av s' = some r ∧ VR g' av v ∧ StR g' s' tm tms w' ∧ Tr g w g' w' := by
  have hfo := funOk_of (hE.func f fn hf).2 hb
  obtain ⟨d1, d2, d3⟩ := rangesOf_dsts hfo.1 hx
  obtain ⟨w1, w2⟩ := rangesOf_draws hfo.2.1 hx
  obtain ⟨l1, l2⟩ := rangesOf_loops hx
  refine roundIn_of_wpIn (hW.fn fr) ?_
  have hs0 : StR g { env := putL cd.ps args env, stk := [(0, .yld b)] :: s.env :: s.stk, bxs := s.bxs } tm0 (#[.func (.yield l) #[] #[]] :: tm :: tms) w := by
    refine ⟨he, ⟨fun m v e => ?_, hs.env, hs.stk⟩, hs.bxs, hs.fz⟩
    by_cases hm : 0 = m
    · subst hm
      rw [find_cons_same] at e
      cases e
      exact hy0
    · rw [find_cons_other _ _ hm] at e; cases e
  have loops : ∀ cb : Code, (∀ x ∈ loopsOf cb, x ∈ loopsOf c) → ∀ x ∈ loopsOf cb, ∀ l, findL E.L ⟨d, base * 1000, f, firstRegion x⟩ = some l → LoopOK E d f (base * 1000) x l :=
    fun cb hsub x hx l hl => hE.loop d _ f fn c x l hf hb (hsub x hx) hl
  have noRanges : ∀ cb : Code, noRange (E.totOf f) cb = true → ∀ x ∈ rangesOf fn.ntmps cb, Codes.cd f x.1 = some x.2 := by
    intro cb hcb x hx
    have : ∀ {cb : Code}, noRange (E.totOf f) cb = true → rangesOf fn.ntmps cb = [] := by
      intro cb
      induction cb with
      | seq a b iha ihb => intro h; simp only [noRange, Bool.and_eq_true] at h; simp only [rangesOf, iha h.1, ihb h.2, List.append_nil]
      | cond q a b iha ihb => intro h; simp only [noRange, Bool.and_eq_true] at h; simp only [rangesOf, iha h.1, ihb h.2, List.append_nil]
      | block id c ih => intro h; exact ih h
      | loop c ih => intro h; exact ih h
      | rangeFunc q ps a b _ _ => intro h; cases h
      | _ => intro _; rfl
    rw [this hcb] at hx
    cases hx
  refine runC_ok hE (hW.inRound l) (N := fun _ => False) (ds := []) (tms := #[.func (.yield l) #[] #[]] :: tm :: tms) hI hn0 cd.assign (dstsOk_mono hn0 d2) w1 (loops _ l1) (.inr hna) (noRanges _ hna) h hs0 hG rfl Mk.nil (.inr hna) ?_
  intro e s1 tm1 g1 w1' ds1 hk hs1 t1 hn1 hm1
  dsimp only at hk
  split at hk
  · rename_i e0 rest f1 i1 env1 hst hbx
    cases hc : (isYld e0 b && (Nat.beq f1 f && Nat.beq i1 id)) with
    | false => rw [hc] at hk; cases hk
    | true =>
      rw [hc, cond_true] at hk
      simp only [Bool.and_eq_true] at hc
      have hf1 := Nat.eq_of_beq_eq_true hc.2.1
      have hi1 := Nat.eq_of_beq_eq_true hc.2.2
      subst hf1 hi1
      have hstk1 := hs1.stk
      rw [hst] at hstk1
      have hds1 : ds1 = [] := no_defers hm1 hstk1 hc.1
      subst hds1
      obtain ⟨gb1, q1, q2, q3⟩ := yld_blk (hstk1.1 0 _ (isYld_ok hc.1)) rfl
      obtain ⟨gb1', p1, p2⟩ := hs1.bxs.box _ _ hbx
      rw [q1] at p1
      cases p1
      obtain ⟨p3, p4, l', tmr, D, fnr, cdr, p5, p6, p7, p8, p9, p10⟩ := p2
      rw [q3] at p5
      cases p5
      have hlt := (Array.getElem?_eq_some_iff.1 p7).1
      refine ⟨_, run_beginRound p7 rfl, ?_⟩
      obtain ⟨w2', hw2⟩ : ∃ w2', w1'.putObj l (.loop { state := .busy, pending := none, fn := fnr, tmps := tmr, params := cdr.ps.toArray, assign := cdr.assign, body := cdr.body, defers := D }) = w2' := ⟨_, rfl⟩
      obtain ⟨hs2, t2⟩ := hs1.upd q1 q3 p4 p10 (w' := w2') (by rw [← hw2]; rfl) (by rw [← hw2]; rfl) (by rw [← hw2]; rfl) (by rw [← hw2]; simp [World.putObj]) (fun b hb _ => by rw [← hw2]; exact World.putObj_heap_other hb) (.loop true f1 i1 env1)
        ⟨p3, p4, l, tmr, D, fnr, cdr, q3, p6, by rw [← hw2]; exact World.putObj_heap_same hlt, p8, p9, p10⟩
      have hw2' : w1'.putObj l (.loop { state := .busy, pending := none, fn := fnr, tmps := tmr, params := cdr.ps.toArray, assign := cdr.assign, body := cdr.body, defers := D }) = w2' := hw2
      show cd.body.wpIn (F.inRound l) n P _ ⟨tm1, []⟩ (w1'.putObj l (.loop { state := .busy, pending := none, fn := fnr, tmps := tmr, params := cdr.ps.toArray, assign := cdr.assign, body := cdr.body, defers := D }))
      rw [hw2']
      have tt := t1.trans t2
      refine runC_ok hE (hW.inRound l) (N := fun _ => False) (ds := []) (tms := #[.func (.yield l) #[] #[]] :: tm :: tms) hI (n := tm1.size) (by rw [hn1]; exact hn0) cd.body (dstsOk_mono (by rw [hn1]; exact hn0) d3) w2 (loops _ l2) (.inr hnb) (noRanges _ hnb) hk hs2 (hG.mono tt.fz) rfl (hm1.tr t2) (.inr hnb) ?_
      intro e s2 tm2 g2 w3 ds2 hk2 hs3 t3 _ hm2
      dsimp only at hk2
      split at hk2
      · rename_i e1 env0 stk f2 i2 env2 hst2 hbx2
        cases hc2 : (isYld e1 b && (Nat.beq f2 f1 && Nat.beq i2 i1)) with
        | false => rw [hc2] at hk2; cases hk2
        | true =>
          rw [hc2, cond_true] at hk2
          simp only [Bool.and_eq_true] at hc2
          have hf2 := Nat.eq_of_beq_eq_true hc2.2.1
          have hi2 := Nat.eq_of_beq_eq_true hc2.2.2
          subst hf2 hi2
          have hstk2 := hs3.stk
          rw [hst2] at hstk2
          have hds2 : ds2 = [] := no_defers hm2 hstk2 hc2.1
          subst hds2
          obtain ⟨gb2, r1, r2, r3⟩ := yld_blk (hstk2.1 0 _ (isYld_ok hc2.1)) rfl
          obtain ⟨gb2', u1, u2⟩ := hs3.bxs.box _ _ hbx2
          rw [r1] at u1
          cases u1
          obtain ⟨u3, u4, l'', tmr2, D2, fnr2, cdr2, u5, u6, u7, u8, u9, u10⟩ := u2
          rw [r3] at u5
          cases u5
          have hlt2 := (Array.getElem?_eq_some_iff.1 u7).1
          obtain ⟨w4, hw4⟩ : ∃ w4, w3.putObj l (.loop { state := .ready, pending := none, fn := fnr2, tmps := tmr2, params := cdr2.ps.toArray, assign := cdr2.assign, body := cdr2.body, defers := D2 }) = w4 := ⟨_, rfl⟩
          obtain ⟨hs4, t4⟩ := hs3.upd r1 r3 u4 u10 (w' := w4) (by rw [← hw4]; rfl) (by rw [← hw4]; rfl) (by rw [← hw4]; rfl) (by rw [← hw4]; simp [World.putObj]) (fun b hb _ => by rw [← hw4]; exact World.putObj_heap_other hb) (.loop false f2 i2 env2)
            ⟨u3, u4, l, tmr2, D2, fnr2, cdr2, r3, u6, by rw [← hw4]; exact World.putObj_heap_same hlt2, u8, u9, u10⟩
          refine ⟨.bool true, w4, ?_, _, _, _, g2, rfl, hk2, rfl, ⟨hstk2.2.1, hstk2.2.2, hs4.bxs, hs4.fz⟩, tt.trans (t3.trans t4)⟩
          rw [← hw4]
          exact run_endRound none u7
      · cases hk2
  · cases hk
def Md.mode:Md→FrameMode
 | .ret=>.returning
 | .pan p=>.panicking [Pan.entry p]
 | .rcv p=>.panicking [{ Pan.entry p with recovered:=true }]
theorem vsR_of_tsR {g:Gh}:∀ {vs:List AV} {cs:List Value},TsR g vs cs→VsR g vs cs
 | [],[],_=>trivial
 | _ :: _,_ :: _,⟨h1,h2⟩=>⟨h1.vr',vsR_of_tsR h2⟩
 | [],_ :: _,h=>h.elim
 | _ :: _,[],h=>h.elim
theorem pan_av {g:Gh} (p:Pan):VR g p.av (.iface p.t p.v.val):=by
 obtain ⟨t,v⟩:=p
 cases v <;> exact ⟨_,rfl,rfl⟩
theorem runOpsD_ok (hE:EnvOK P E) {F:Fence} (hW:Wide F) {M base n:Nat} {R:Type} {ops:Array Oper} {K:Md→St→Option R} {r:R} {c₀:Frame} {cs:List Frame} {Q:Exit→Act→List Frame→World→Prop} {tms:List (Array Value)} :
  ∀ (rest:List Oper) (k:Nat),ops.toList.drop k = rest→rest.all (dstOk n) = true→∀ {m:Md} {g:Gh} {s:St} {tm:Array Value} {w:World},runOpsD E base rest m s K = some r→StR g s tm tms w→GlobOK E.C g.fz→tm.size = n →
   (∀ m' s' tm' g' w',K m' s' = some r→StR g' s' tm' tms w'→Tr g w g' w'→tm'.size = n→Q .normal ⟨tm',[]⟩ ({ c₀ with mode:=m'.mode } :: cs) w')→wpOpsSIn F M P ops Q (List.range' k rest.length) ⟨tm,[]⟩ ({ c₀ with mode:=m.mode } :: cs) w
 | [],k,_,_,m,g,s,tm,w,h,hs,_,hn,hQ=>hQ m s tm g w h hs (Tr.refl _ _) hn
 | o :: rest,k,hd,hall,m,g,s,tm,w,h,hs,hG,hn,hQ=>by
  simp only [List.all_cons,Bool.and_eq_true] at hall
  have hlt:=dstOk_lt hall.1
  have hok:ops[k]? = some o:=by
   have:ops.toList[k]? = some o:=by
    have:=congrArg (fun l=>l[0]?) hd
    simpa using this
   rw [← Array.getElem?_toList]; exact this
  have hd':ops.toList.drop (k + 1) = rest:=by
   rw [← List.drop_drop,hd]; rfl
  have go:∀ {m1:Md} {g1:Gh} {s1:St} {w1:World} {v:AV} {z:Value},runOpsD E base rest m1 { s1 with env:=putE o.dst v s1.env } K = some r→StR g1 s1 tm tms w1→VR g1 v z→Tr g w g1 w1→wpOpsSIn F M P ops Q (List.range' (k + 1) rest.length) (Act.put ⟨tm,[]⟩ o.dst z) ({ c₀ with mode:=m1.mode } :: cs) w1:=by
   intro m1 g1 s1 w1 v z h1 hs1 hv ht1
   rw [put_defers]
   exact runOpsD_ok hE hW rest (k + 1) hd' hall.2 h1 (hs1.put (fun d hd=>by rw [hn]; exact hlt d hd) hv []) (hG.mono ht1.fz) (by rw [put_size]; exact hn) (fun m' s' tm' g' w' a b c d=>hQ m' s' tm' g' w' a b (ht1.trans c) d)
  simp only [List.length_cons,List.range'_succ,wpOpsSIn,hok]
  simp only [runOpsD] at h
  refine ⟨fun f _=>hW.fn f,?_⟩
  split at h
  ·cases h
  ·rename_i hg
   have hw:Region.wanted o (yielded ops tm) = true:=by simp [Region.wanted,hg]
   rw [if_pos hw]
   split at h
   ·rename_i args ats hop
    have hr:(execOp (Act.eval ⟨tm,[]⟩) o).run P w = .ok .recover w:=by
     simp only [execOp,hop,resolve,Sem.run_bind,Sem.run_pure,Result.andThen_ok,invoke,builtin]
    rw [hr]
    split at h
    ·rename_i p
     exact go h hs (pan_av p) (Tr.refl _ _)
    ·rename_i hm
     cases m with
     | pan p=>exact absurd rfl (hm p)
     | ret=>exact go h hs rfl (Tr.refl _ _)
     | rcv p=>exact go h hs rfl (Tr.refl _ _)
   ·split at h
    ·rename_i c v e hx
     cases c with
     | false=>simp at h
     | true =>
      simp only [cond_true] at h
      obtain ⟨n',w',g',h1,h2,h3,h4⟩:=execA_ok hE.cfg hs hG hx []
      rw [h1]
      rcases h2 with ⟨z,rfl,h2⟩ | ⟨rfl,h2⟩
      ·exact go h h3 h2 h4
      ·exact go h h3 h2 h4
    ·cases h
theorem runCD_ok (hE:EnvOK P E) {F:Fence} (hW:Wide F) (hround:F.round = none) {M nt:Nat} {d f base n:Nat} (hI:∀ R:Type,InlOK (R:=R) P E (inlineC E d)) (hnt:nt≤n) {R:Type} {r:R} {c₀:Frame} {cs:List Frame} {tms:List (Array Value)}:∀ (c:Code),dstsOk n c = true→drawsOk (E.totOf f) c = true →
  (∀ b∈loopsOf c,∀ l,findL E.L ⟨d,base,f,firstRegion b⟩ = some l→LoopOK E d f base b l)→(∀ x∈rangesOf nt c,Codes.cd f x.1 = some x.2) →
  ∀ {K:Ex→Md→St→Option R} {m:Md} {g:Gh} {s:St} {tm:Array Value} {w:World} {Q:Exit→Act→List Frame→World→Prop},
   runCD E (inlineC E d) d f base c m s K = some r→StR g s tm tms w→GlobOK E.C g.fz→tm.size = n →
   (∀ e m' s' tm' g' w',K e m' s' = some r→StR g' s' tm' tms w'→Tr g w g' w'→tm'.size = n→Q e.to ⟨tm',[]⟩ ({ c₀ with mode:=m'.mode } :: cs) w')→c.wpSIn F M P Q ⟨tm,[]⟩ ({ c₀ with mode:=m.mode } :: cs) w:=by
 have other:∀ (c:Code),dstsOk n c = true→drawsOk (E.totOf f) c = true →
  (∀ b∈loopsOf c,∀ l,findL E.L ⟨d,base,f,firstRegion b⟩ = some l→LoopOK E d f base b l)→(∀ x∈rangesOf nt c,Codes.cd f x.1 = some x.2) →
  ∀ {K:Ex→Md→St→Option R} {m:Md} {g:Gh} {s:St} {tm:Array Value} {w:World} {Q:Exit→Act→List Frame→World→Prop},(bif noRange (E.totOf f) c then runC E (inlineC E d) d f base c s fun e s'=>bif Nat.beq s'.stk.length s.stk.length then K e m s' else none else none) = some r→StR g s tm tms w→GlobOK E.C g.fz→tm.size = n →
   (∀ e m' s' tm' g' w',K e m' s' = some r→StR g' s' tm' tms w'→Tr g w g' w'→tm'.size = n→Q e.to ⟨tm',[]⟩ ({ c₀ with mode:=m'.mode } :: cs) w')→c.wpSIn F M P Q ⟨tm,[]⟩ ({ c₀ with mode:=m.mode } :: cs) w:=by
  intro c hd hw hl hcd K m g s tm w Q h hs hG hn hQ
  cases hnr:noRange (E.totOf f) c with
  | false=>rw [hnr] at h; cases h
  | true =>
   rw [hnr,cond_true] at h
   refine wpSIn_of_wpIn hround (runC_ok hE hW (N:=fun _=>False) (ds:=[]) (tms:=tms) hI hnt c hd hw hl (.inl hround) hcd h hs hG hn Mk.nil (.inr hnr) ?_)
   intro e s' tm' g' w' ds' hk hs' ht hn' hm'
   dsimp only at hk
   cases hb:Nat.beq s'.stk.length s.stk.length with
   | false=>rw [hb] at hk; cases hk
   | true =>
    rw [hb,cond_true] at hk
    have hlen:=Nat.eq_of_beq_eq_true hb
    have h1:=hs'.stk.length
    have h2:=hs.stk.length
    rw [List.length_append] at h1
    have hds:ds' = []:=hm'.none (List.eq_nil_of_length_eq_zero (by omega))
    subst hds
    exact hQ e m s' tm' g' w' hk hs' ht hn'
 intro c
 induction c with
 | seq a b iha ihb =>
  intro hd hw hl hcd K m g s tm w Q h hs hG hn hQ
  simp only [dstsOk,Bool.and_eq_true] at hd
  simp only [drawsOk,Bool.and_eq_true] at hw
  simp only [runCD] at h
  refine wpSIn_seq (iha hd.1 hw.1 (fun b' hb'=>hl b' (by simp [loopsOf,hb'])) (fun x hx=>hcd x (by simp [rangesOf,hx])) h hs hG hn ?_)
  intro e m' s' tm' g' w' hk hs' ht hn'
  cases e with
  | normal=>exact ihb hd.2 hw.2 (fun b' hb'=>hl b' (by simp [loopsOf,hb'])) (fun x hx=>hcd x (by simp [rangesOf,hx])) hk hs' (hG.mono ht.fz) hn' (fun e m2 s2 tm2 g2 w2 a b c d=>hQ e m2 s2 tm2 g2 w2 a b (ht.trans c) d)
  | exit id=>exact hQ (.exit id) m' s' tm' g' w' hk hs' ht hn'
  | ret=>exact hQ .ret m' s' tm' g' w' hk hs' ht hn'
  | pan p=>exact hQ (.pan p) m' s' tm' g' w' hk hs' ht hn'
 | cond x a b iha ihb =>
  intro hd hw hl hcd K m g s tm w Q h hs hG hn hQ
  simp only [dstsOk,Bool.and_eq_true] at hd
  simp only [drawsOk,Bool.and_eq_true] at hw
  simp only [runCD] at h
  split at h
  ·rename_i t hx
   have hcv:[Act.eval ⟨tm,[]⟩ x] = [Value.bool t]:=ev_ok hs hG hx []
   simp only [List.cons.injEq,and_true] at hcv
   refine wpSIn_cond hcv ?_
   cases t
   ·exact ihb hd.2 hw.2 (fun b' hb'=>hl b' (by simp [loopsOf,hb'])) (fun x hx=>hcd x (by simp [rangesOf,hx])) h hs hG hn hQ
   ·exact iha hd.1 hw.1 (fun b' hb'=>hl b' (by simp [loopsOf,hb'])) (fun x hx=>hcd x (by simp [rangesOf,hx])) h hs hG hn hQ
  ·cases h
 | region id ops dr =>
  intro hd hw hl hcd K m g s tm w Q h hs hG hn hQ
  simp only [runCD] at h
  cases hb:(hasRecover ops && !dr) with
  | false=>rw [hb] at h; exact other _ hd hw hl hcd h hs hG hn hQ
  | true =>
   rw [hb,cond_true] at h
   simp only [Bool.and_eq_true,Bool.not_eq_true'] at hb
   rw [hb.2]
   refine wpSIn_region ?_
   have:=runOpsD_ok hE hW (M:=M) (n:=n) (Q:=Q) (c₀:=c₀) (cs:=cs) ops.toList 0 rfl hd h hs hG hn (fun m' s' tm' g' w' a b c d=>hQ .normal m' s' tm' g' w' a b c d)
   rw [Array.length_toList] at this
   rw [List.range_eq_range']
   exact this
 | skip=>intro hd hw hl hcd K m g s tm w Q h hs hG hn hQ; simp only [runCD] at h; exact other _ hd hw hl hcd h hs hG hn hQ
 | block id c _=>intro hd hw hl hcd K m g s tm w Q h hs hG hn hQ; simp only [runCD] at h; exact other _ hd hw hl hcd h hs hG hn hQ
 | loop c _=>intro hd hw hl hcd K m g s tm w Q h hs hG hn hQ; simp only [runCD] at h; exact other _ hd hw hl hcd h hs hG hn hQ
 | rangeFunc q ps a b _ _=>intro hd hw hl hcd K m g s tm w Q h hs hG hn hQ; simp only [runCD] at h; exact other _ hd hw hl hcd h hs hG hn hQ
 | exit id=>intro hd hw hl hcd K m g s tm w Q h hs hG hn hQ; simp only [runCD] at h; exact other _ hd hw hl hcd h hs hG hn hQ
 | scope c _=>intro hd hw hl hcd K m g s tm w Q h hs hG hn hQ; simp only [runCD] at h; exact other _ hd hw hl hcd h hs hG hn hQ
 | label l=>intro hd hw hl hcd K m g s tm w Q h hs hG hn hQ; simp only [runCD] at h; exact other _ hd hw hl hcd h hs hG hn hQ
 | goto l=>intro hd hw hl hcd K m g s tm w Q h hs hG hn hQ; simp only [runCD] at h; exact other _ hd hw hl hcd h hs hG hn hQ
 | ret=>intro hd hw hl hcd K m g s tm w Q h hs hG hn hQ; simp only [runCD] at h; exact other _ hd hw hl hcd h hs hG hn hQ
 | refuse l=>intro hd hw hl hcd K m g s tm w Q h hs hG hn hQ; simp only [runCD] at h; exact other _ hd hw hl hcd h hs hG hn hQ
def Fin (P:Program) (fn:Func) (R:Ending→World→Prop) (tm:Array Value) (w:World):Md→Prop
 | .ret=>∃ v,(results fn tm).run P w = .ok v w∧R (.returned v) w
 | .pan p=>R (.panicked [Pan.entry p]) w
 | .rcv _=>True
theorem leaveC_ok (hE:EnvOK P E) {d base:Nat} (hI:∀ R:Type,InlOK (R:=R) P E (inlineC E d)) {X:Type} {r:X} {K:Md→St→Option X} {fn:Func} {tm:Array Value} {R:Ending→World→Prop} {tms:List (Array Value)} {g0:Gh} {w0:World} (hG0:GlobOK E.C g0.fz)
  (fin:∀ m s g w,K m s = some r→StR g s tm tms w→Tr g0 w0 g w→Fin P fn R tm w m) :
  ∀ (ds:List Deferred) (n:Nat) (m:Md) (s:St) (g:Gh) (w:World),n = (dfs ds).length→leaveC E (inlineC E d) d base K n m s = some r→(∀ p,m ≠ .rcv p)→StR g s tm (dfs ds++tms) w→Tr g0 w0 g w→Mk (fun r=>w0.heap.size≤r) g w ds→LeavesInM Fence.wide 0 P fn tm R ds m.mode w
 | [],n,m,s,g,w,hn,h,hm,hs,ht,_=>by
  subst hn
  have:=fin m s g w h hs ht
  cases m with
  | ret=>exact this
  | pan p=>exact this
  | rcv p=>exact absurd rfl (hm p)
 | d1 :: ds,n,m,s,g,w,hn,h,hm,hs,ht,hk=>by
  have hmode:m.mode ≠ .run:=by cases m <;> exact fun h=>nomatch h
  have ap:=List.pairwise_cons.1 hk.apart
  rcases hk.mem d1 (by simp) with ⟨r1,rfl,e2,e3,e4⟩ | ⟨f,cap,args,rfl⟩
  ·refine ⟨hmode,.inl ⟨r1,_,rfl,run_takeDeferred e3,?_⟩⟩
   refine leaveC_ok hE hI hG0 fin ds n m s g _ hn h hm (hs.putOther e3 e4 _) (ht.putOther e2 _) ⟨fun d' hd'=>?_,ap.2⟩
   rcases hk.mem d' (by simp [hd']) with ⟨r',rfl,k2,k3,k4⟩ | h'
   ·have hne:r' ≠ r1:=fun e=>ap.1 _ hd' r1 rfl (by rw [e])
    exact .inl ⟨r',rfl,k2,(World.putObj_heap_other hne).trans k3,k4⟩
   ·exact .inr h'
  ·have hdf:dfs ({ target:=.fn (.func f) cap,args:=args } :: ds) = #[.tuple (#[.func (.func f) #[] cap]++args)] :: dfs ds:=rfl
   rw [hdf] at hn hs
   subst hn
   simp only [List.length_cons,leaveC] at h
   split at h
   ·rename_i dfr stk hst
    have hstk:=hs.stk
    rw [hst] at hstk
    split at h
    ·rename_i f' caps vs hfd
     have hv:=hstk.1 0 _ hfd
     obtain ⟨arr,ha1,ha2⟩:=hv
     have harr:arr = #[.func (.func f) #[] cap]++args:=by
      have:(#[Value.tuple (#[.func (.func f) #[] cap]++args)]:Array Value).getD 0 undef = .tuple (#[.func (.func f) #[] cap]++args):=rfl
      rw [this] at ha1
      exact (Value.tuple.inj ha1).symm
     subst harr
     simp only [Array.toList_append,List.cons_append,List.nil_append] at ha2
     obtain ⟨⟨cv,hcv,hcaps⟩,hvs⟩:=ha2
     simp only [List.cons.injEq,and_true,Value.func.injEq,Fn.func.injEq,true_and] at hcv
     obtain ⟨rfl,rfl⟩:=hcv
     split at h
     ·rename_i fd hfd
      split at h
      ·rename_i cd hcd
       have hen:=enter_of hE hfd
       obtain ⟨hfn,hfo⟩:=hE.func f fd hfd
       have hd:=funOk_of hfo hcd
       refine ⟨hmode,.inr ⟨(fun h=>nomatch h),.func f,cap,f,args++cap,rfl,run_callFunc hen _ _,(fun _ _=>trivial),?_⟩⟩
       refine callsDIn_of_wpSIn hfn hcd trivial ?_
       intro c₀ cs hc₀
       have hc:({ c₀ with mode:=m.mode }:Frame) = c₀:=by rw [← hc₀]
       have hall:VsR g (vs++caps) (args++cap).toList:=by
        rw [Array.toList_append]
        exact (vsR_of_tsR hvs).append hcaps.vsR
       have hs0:StR g { env:=params 0 (vs++caps),stk:=s.env :: stk,bxs:=s.bxs } ((args++cap)++Array.replicate (fd.ntmps - (args++cap).size) undef) (tm :: (dfs ds++tms)) w:=⟨envR_params hall _,⟨hs.env,hstk.2⟩,hs.bxs,hs.fz⟩
       have main:=runCD_ok hE .base rfl (M:=0 - 1) (nt:=fd.ntmps) (n:=((args++cap)++Array.replicate (fd.ntmps - (args++cap).size) undef).size) hI (by simp; omega) (c₀:=c₀) (cs:=cs) cd (dstsOk_mono (by simp; omega) hd.1) hd.2.1 (fun b hb' l hl=>hE.loop d _ f fd cd b l hfd hcd hb' hl) (codes_of hE hfd hcd) (Q:=bodyPostS P fd c₀ cs fun
        | .returned _,u',w'=>LeavesInM Fence.wide 0 P fn tm R ds (settle u') w'
        | .panicked chain,u',w'=>LeavesInM Fence.wide 0 P fn tm R ds (raised u' chain) w'
        | .outgrown,_,w'=>R .outgrown w') h hs0 (hG0.mono ht.fz) rfl ?_
       ·rw [hc] at main
        exact main
       ·intro e m' s' tm' g' w' hk' hs' ht' _
        have go:∀ env stk',s'.stk = env :: stk'→∀ m2:Md,(∀ p,m2 ≠ .rcv p)→leaveC E (inlineC E d) d base K (dfs ds).length m2 { env:=env,stk:=stk',bxs:=s'.bxs } = some r→LeavesInM Fence.wide 0 P fn tm R ds m2.mode w':=by
         intro env stk' hst' m2 hm2 hk2
         have hstk':=hs'.stk
         rw [hst'] at hstk'
         exact leaveC_ok hE hI hG0 fin ds _ m2 _ g' w' rfl hk2 hm2 ⟨hstk'.1,hstk'.2,hs'.bxs,hs'.fz⟩ (ht.trans ht') ((⟨fun d hd=>hk.mem d (by simp [hd]),ap.2⟩:Mk _ g w ds).tr ht')
        have ret:∀ env stk',s'.stk = env :: stk'→(match resOf E.C s' fd.results.toList with
          | some _=>leaveC E (inlineC E d) d base K (dfs ds).length (match (generalizing:=false) m' with | .rcv _=>.ret | m=>m) { env:=env,stk:=stk',bxs:=s'.bxs }
          | none=>none) = some r→∃ u',({ c₀ with mode:=m'.mode }:Frame) :: cs = { c₀ with mode:=u' } :: cs∧∃ v,(results fd tm').run P w' = .ok v w'∧LeavesInM Fence.wide 0 P fn tm R ds (settle u') w':=by
         intro env stk' hst' hk2
         split at hk2
         ·rename_i us hus
          obtain ⟨cs',q1,q2,q3⟩:=results_ok hE.cfg hs' hus
          refine ⟨m'.mode,rfl,_,run_results q1,?_⟩
          cases m' with
          | ret=>exact go env stk' hst' .ret (fun _ h=>nomatch h) hk2
          | pan p=>exact go env stk' hst' (.pan p) (fun _ h=>nomatch h) hk2
          | rcv p=>exact go env stk' hst' .ret (fun _ h=>nomatch h) hk2
         ·cases hk2
        cases e with
        | exit i=>simp at hk'
        | pan p =>
         refine ⟨rfl,m'.mode,rfl,?_⟩
         cases hst':s'.stk with
         | nil=>rw [hst'] at hk'; cases m' <;> cases hk'
         | cons env stk' =>
          rw [hst'] at hk'
          cases m' with
          | ret=>exact go env stk' hst' (.pan p) (fun _ h=>nomatch h) hk'
          | pan q=>cases hk'
          | rcv q=>cases hk'
        | normal =>
         cases hst':s'.stk with
         | nil=>rw [hst'] at hk'; cases hk'
         | cons env stk' =>
          rw [hst'] at hk'
          exact ⟨rfl,ret env stk' hst' hk'⟩
        | ret =>
         cases hst':s'.stk with
         | nil=>rw [hst'] at hk'; cases hk'
         | cons env stk' =>
          rw [hst'] at hk'
          exact ⟨rfl,ret env stk' hst' hk'⟩
      ·cases h
     ·cases h
    ·cases h
   ·cases h
theorem body_ok (hE:EnvOK P E) {d base base':Nat} (hI:∀ R:Type,InlOK (R:=R) P E (inlineC E d)) {f:Nat} {fn:Func} {c:Code} (hf:find E.F f = some fn) (hb:fn.body = some c) {g:Gh} {s0:St} {vals:Array Value} {tms:List (Array Value)} {w:World}
  (hs0:StR g s0 (vals++Array.replicate (fn.ntmps - vals.size) undef) tms w) (hG:GlobOK E.C g.fz) {X:Type} {K:St→Md→St→Option X} {r:X} {L:Nat} (hL:L = tms.length)
  (h:runC E (inlineC E d) d f base c s0 (fun e s=>match mdOf e with | none=>none | some m=>leaveC E (inlineC E d) d base' (K s) (s.stk.length - L) m s) = some r) {R:Ending→World→Prop}
  (fin:∀ s1 m s tm' g' w',K s1 m s = some r→StR g' s tm' tms w'→Tr g w g' w'→Fin P fn R tm' w' m):Calls P f vals w R:=by
 obtain ⟨hfn,hfo⟩:=hE.func f fn hf
 have hd:=funOk_of hfo hb
 refine callsIn_wide.1 (callsIn_of_wp_marks (n:=0) hfn hb trivial ?_)
 refine runC_ok hE .base (N:=fun r=>w.heap.size≤r) (ds:=[]) (tms:=tms) (nt:=fn.ntmps) (n:=(vals++Array.replicate (fn.ntmps - vals.size) undef).size) hI (by simp; omega) c (dstsOk_mono (by simp; omega) hd.1) hd.2.1 (fun b hb' l hl=>hE.loop d _ f fn c b l hf hb hb' hl) (.inl rfl) (codes_of hE hf hb) h hs0 hG rfl Mk.nil (.inl fun _ h=>h) ?_
 intro e s' tm' g' w' ds' hk hs' ht _ hm'
 dsimp only at hk
 have hlen:=hs'.stk.length
 rw [List.length_append] at hlen
 have go:∀ m:Md,(∀ p,m ≠ .rcv p)→leaveC E (inlineC E d) d base' (K s') (s'.stk.length - L) m s' = some r→LeavesInM Fence.wide 0 P fn tm' R ds' m.mode w':=by
  intro m hm hk
  exact leaveC_ok hE hI hG (fun m s g2 w2 a b c=>fin s' m s tm' g2 w2 a b c) ds' _ m s' g' w' (by omega) hk hm hs' ht hm'
 cases e with
 | normal=>exact go .ret (fun _ h=>nomatch h) hk
 | ret=>exact go .ret (fun _ h=>nomatch h) hk
 | pan p=>exact go (.pan p) (fun _ h=>nomatch h) hk
 | exit i=>cases hk
theorem inlineC_ok (hE:EnvOK P E):∀ (d:Nat) (R:Type),InlOK (R:=R) P E (inlineC E d)
 | 0,R=>⟨fun base f args s K KP r h=>by simp [inlineC] at h,fun base b args s K KP r h=>by simp [inlineC] at h⟩
 | d + 1,R=>by
  refine ⟨fun base f args s K KP r h=>?_,fun base b args s K KP r h=>?_⟩
  ·simp only [inlineC] at h
   split at h
   ·rename_i fn hf
    split at h
    ·rename_i c hb
     refine ⟨enter_of hE hf,fun g tm tms w vals hs hG hv=>?_⟩
     have hs0:StR g { env:=params 0 args,stk:=s.env :: s.stk,bxs:=s.bxs } (vals++Array.replicate (fn.ntmps - vals.size) undef) (tm :: tms) w:=⟨envR_params hv _,⟨hs.env,hs.stk⟩,hs.bxs,hs.fz⟩
     refine body_ok hE (inlineC_ok hE d) hf hb hs0 hG (K:=fun _ m s'=>match m,s'.stk with
      | .pan p,env :: stk=>KP p { env:=env,stk:=stk,bxs:=s'.bxs }
      | .ret,env :: stk=>match resOf E.C s' fn.results.toList with
       | some vs=>K (tup1 vs) { env:=env,stk:=stk,bxs:=s'.bxs }
       | none=>none
      | _,_=>none) (L:=s.stk.length + 1) (by rw [List.length_cons,hs.stk.length]) h ?_
     intro s1 m s' tm' g' w' hk hs' ht
     have hstk:=hs'.stk
     cases hst:s'.stk with
     | nil=>rw [hst] at hk; cases m <;> cases hk
     | cons env stk =>
      rw [hst] at hk hstk
      cases m with
      | rcv p=>trivial
      | pan p=>exact .inr ⟨p,_,g',rfl,hk,⟨hstk.1,hstk.2,hs'.bxs,hs'.fz⟩,ht⟩
      | ret =>
       simp only at hk
       split at hk
       ·rename_i vs hvs
        obtain ⟨cs,h1,h2,h3⟩:=results_ok hE.cfg hs' hvs
        exact ⟨_,run_results h1,.inl ⟨_,_,_,g',rfl,hk,tup1_ok h2 h3,⟨hstk.1,hstk.2,hs'.bxs,hs'.fz⟩,ht⟩⟩
       ·cases hk
    ·cases h
   ·cases h
  ·intro g tm tms w vals gb l hs hG hv hgb hl
   simp only [inlineC] at h
   split at h
   ·rename_i f id env hbx
    split at h
    ·rename_i fn hf
     split at h
     ·rename_i c hb
      split at h
      ·rename_i cd hcd
       cases hchk:(Nat.beq cd.ps.length args.length && (noRange (E.totOf f) cd.assign && noRange (E.totOf f) cd.body)) with
       | false=>rw [hchk] at h; cases h
       | true =>
        rw [hchk,cond_true] at h
        simp only [Bool.and_eq_true] at hchk
        obtain ⟨gb',p1,p2⟩:=hs.bxs.box _ _ hbx
        rw [hgb] at p1
        cases p1
        obtain ⟨p3,p4,l',tmr,D,fnr,cdr,p5,p6,p7,p8,p9,p10⟩:=p2
        rw [hl] at p5
        cases p5
        have hmem:=find_mem hcd
        have hcdr:cdr = cd:=by
         have:=codes_of hE hf hb _ hmem
         simp only at this
         rw [p6] at this
         exact Option.some.inj this
        subst hcdr
        have hnt:=rangesOf_n hmem
        simp only at hnt
        rw [hnt] at p9
        have hlen:=Nat.eq_of_beq_eq_true hchk.1
        have hps:=(rangesOf_dsts (funOk_of (hE.func f fn hf).2 hb).1 hmem).1
        obtain ⟨e1,e2⟩:=putL_ok (g:=g) (ps:=cdr.ps) (args:=args) (vals:=vals.toList) hv (show EnvR g env tmr from p8) hlen (fun p hp=>Nat.lt_of_lt_of_le (hps p hp) p9)
        have hvl:vals.size = cdr.ps.length:=by
         rw [hlen]
         have:∀ {l:List AV} {cs:List Value},VsR g l cs→l.length = cs.length:=by
          intro l
          induction l with
          | nil=>intro cs h; cases cs with | nil=>rfl | cons c cs=>exact h.elim
          | cons a l ih=>intro cs h; cases cs with | nil=>exact h.elim | cons c cs=>simp [ih h.2]
         rw [← Array.length_toList]
         exact (this hv).symm
        refine ⟨fnr,_,cdr.assign,cdr.body,run_yield p7 (by simpa using hvl),fun F n hW=>?_⟩
        simp only
        rw [zip_foldl]
        exact round_ok hE (inlineC_ok hE d) hf hb hmem hchk.2.1 hchk.2.2 h e1 (by rw [e2]; exact p9) hs hG ⟨gb,l,hgb,p3,hl,rfl⟩ hW fnr
      ·cases h
     ·cases h
    ·cases h
   ·cases h
theorem resK_eq {R:Type} {bx:Bxs}:∀ {l:List Ty} {vs:List AV} {K:tysDen l→Option R},resK bx l vs K = argsK (frzAll bx) l vs K
 | [],[],K=>rfl
 | [],_ :: _,K=>rfl
 | _ :: _,[],K=>rfl
 | T :: l,v :: vs,K=>by
  simp only [resK,argsK]
  split
  ·exact resK_eq
  ·rfl
noncomputable def runV (E:Env0) (f:Nat) (fn:Func) (c:Code) (vs:List AV) (res:List Ty):Option (tysDen res) :=
 runC E (inlineC E depth) depth f 0 c { env:=params 0 vs,stk:=[],bxs:=[] } fun e s =>
  match mdOf e with
  | none=>none
  | some m=>leaveC E (inlineC E depth) depth 0 (fun m s=>match m with
   | .ret=>match resOf E.C s fn.results.toList with
    | some vs=>resK s.bxs res vs some
    | none=>none
   | _=>none) s.stk.length m s
theorem pure_core (hE:EnvOK P E) {f:Nat} {fn:Func} {c:Code} (hf:find E.F f = some fn) (hb:fn.body = some c) {res:List Ty} {fz:Nat→Nat→Option Value} {w:World} {args:Array Value} {vs:List AV} {y:tysDen res}
  (hG:GlobOK E.C fz) (hF:FzOK (.of fz) w) (ha:VsR (.of fz) vs args.toList) (h:runV E f fn c vs res = some y) :
  Calls P f args w fun e w'=>∃ cs fz',e = .returned (resVal cs)∧TVs fz' res y cs∧FzOK (.of fz') w'∧Tr (.of fz) w (.of fz') w':=by
 unfold runV at h
 have hs0:StR (.of fz) { env:=params 0 vs,stk:=[],bxs:=[] } (args++Array.replicate (fn.ntmps - args.size) undef) [] w:=⟨envR_params ha _,trivial,bxR_nil,hF⟩
 refine body_ok hE (inlineC_ok hE depth) hf hb hs0 hG (K:=fun _ m s=>match m with
   | .ret=>match resOf E.C s fn.results.toList with
    | some vs=>resK s.bxs res vs some
    | none=>none
   | _=>none) (L:=0) rfl h ?_
 intro s1 m s' tm' g' w' hk hs' ht
 cases m with
 | rcv p=>trivial
 | pan p=>cases hk
 | ret =>
  simp only at hk
  split at hk
  ·rename_i vs hvs
   obtain ⟨cs,h1,h2,h3⟩:=results_ok hE.cfg hs' hvs
   rw [resK_eq] at hk
   obtain ⟨fz1,h4,t4⟩:=StR.frzKeys s'.bxs hs'
   have hx:ExtBut none g' ⟨fz1,g'.bx⟩:=⟨t4.fz,fun _ _ _ h=>h,fun _ _ h _=>nomatch h⟩
   have hvm:∀ {l:List AV} {cs:List Value},VsR g' l cs→VsR ⟨fz1,g'.bx⟩ l cs:=by
    intro l
    induction l with
    | nil=>intro cs h; cases cs <;> exact h
    | cons v l ih =>
     intro cs h
     cases cs with
     | nil=>exact h.elim
     | cons c cs=>exact ⟨h.1.grow hx,ih h.2⟩
   obtain ⟨y',h5,h6⟩:=argsK_ok h4.bxs.w h4.fz hk (hvm h2)
   cases h5
   have t5:=ht.trans t4
   exact ⟨_,run_results h1,cs,fz1,rfl,h6,h4.fz,⟨t5.os,t5.tape,t5.output,t5.size,t5.fz,t5.fzNew,fun b h=>(not_owned _ _ h).elim,t5.block⟩⟩
  ·cases hk
theorem pure_of_run (hE:EnvOK P E) {f:Nat} {fn:Func} {c:Code} (hf:find E.F f = some fn) (hb:fn.body = some c) (p:PSpec) (hp:∀ x y,p.fn x = some y→runF E f fn c p.args p.res x = some y):PureOK P E.C f p:=by
 intro fz w args x y hG hF ha hx
 exact pure_core hE hf hb hG hF (TVs.vsR (g:=.of fz) ha) (hp x y hx)
theorem pure_nil (hE:EnvOK P E) {f:Nat} {fn:Func} {c:Code} (hf:find E.F f = some fn) (hb:fn.body = some c) (T:Ty) (args res:List Ty) (F:tysDen (.sl T :: args)→Option (tysDen res))
  (h1:∀ x y,F ([],x) = some y→runV E f fn c (.nils :: tysAV args x) res = some y) (h2:∀ l x y,F (l,x) = some y→runV E f fn c (.nn T l :: tysAV args x) res = some y) :
  PureOK P E.C f { args:=.sl T :: args,res:=res,fn:=F }:=by
 intro fz w vals x y hG hF ha hx
 obtain ⟨l,x⟩:=x
 have hx':F (l,x) = some y:=hx
 have ha':TVs fz (.sl T :: args) (l,x) vals.toList:=ha
 generalize hv:vals.toList = vl at ha'
 cases vl with
 | nil=>exact ha'.elim
 | cons v vl =>
  obtain ⟨⟨arr,⟨v',e1,e2⟩,e3⟩,hr⟩:=ha'
  have e4:v = v':=by
   rw [e3]
   show arr.getD 0 undef = v'
   rw [Array.getD_eq_getD_getElem?,← Array.getElem?_toList,e1]
   rfl
  subst e4
  rcases e2 with ⟨e5,a,e6⟩ | ⟨blk,off,cap,cs,e5,q1,q2,q3⟩
  ·have e5':l = []:=e5
   subst e5'
   cases a with
   | none =>
    refine pure_core hE hf hb hG hF ?_ (h1 x y hx')
    rw [hv]
    exact ⟨by rw [e6]; rfl,TVs.vsR (g:=.of fz) hr⟩
   | some a =>
    refine pure_core hE hf hb hG hF ?_ (h2 [] x y hx')
    rw [hv]
    exact ⟨.inl ⟨rfl,a,by rw [e6]⟩,TVs.vsR (g:=.of fz) hr⟩
  ·refine pure_core hE hf hb hG hF ?_ (h2 l x y hx')
   rw [hv]
   exact ⟨.inr ⟨blk,off,cap,cs,by rw [e5],q1,q2,q3⟩,TVs.vsR (g:=.of fz) hr⟩
theorem resRow_ok {g:Gh} {s:St} {tm:Array Value} {tms:List (Array Value)} {w:World} (hs:StR g s tm tms w) {T:Ty} {fz:Bool} {v:AV} {l:List T.den} (h:resRow s.bxs T fz v = some l) {c:Value} (hv:VR g v c) :
  ∃ gb,gb.isRow = true∧WinR gb .whole c∧BoxR g (.row T fz l) gb w∧∀ blk,gb.blk = some blk→gb.own = true→owned g blk:=by
 unfold resRow at h
 split at h
 ·simp only [Option.some.injEq] at h
  subst h
  have hc:[c] = [Value.slice none 0 0]:=hv
  simp only [List.cons.injEq,and_true] at hc
  subst hc
  exact ⟨⟨true,false,none,0,0,0,T.size,none⟩,rfl,⟨rfl,rfl⟩,⟨rfl,rfl,rfl,Nat.le_refl _,rfl,rfl,rfl⟩,(fun _ h=>nomatch h)⟩
 ·rename_i S l'
  cases fz with
  | false=>cases h
  | true =>
   rw [cond_true] at h
   split at h
   ·rename_i hS
    subst hS
    simp only [Option.some.injEq] at h
    subst h
    rcases (show GR g (.full S l') [c] from hv) with ⟨rfl,a0,hc⟩ | ⟨blk,off,cs,hc,h1,h2⟩
    ·simp only [List.cons.injEq,and_true] at hc
     subst hc
     exact ⟨⟨true,false,none,0,0,0,S.size,a0⟩,rfl,⟨rfl,rfl⟩,⟨rfl,rfl,rfl,Nat.le_refl _,rfl,rfl,rfl⟩,(fun _ h=>nomatch h)⟩
    simp only [List.cons.injEq,and_true] at hc
    subst hc
    exact ⟨⟨true,false,some blk,off,l'.length,l'.length,S.size,none⟩,rfl,rfl,⟨rfl,rfl,rfl,Nat.le_refl _,.inl rfl,rfl,cs,h1,h2⟩,(fun _ _ h=>nomatch h)⟩
   ·cases h
 ·rename_i b
  split at h
  ·rename_i S f l' hb
   cases hf:f == fz with
   | false=>rw [hf] at h; cases h
   | true =>
    rw [hf,cond_true] at h
    split at h
    ·rename_i hS
     subst hS
     simp only [Option.some.injEq] at h
     subst h
     have hff:=eq_of_beq hf
     subst hff
     obtain ⟨gb,v,e1,e2,e3,hw⟩:=(show GR g (.row b .whole) [c] from hv)
     simp only [List.cons.injEq,and_true] at e3
     subst e3
     obtain ⟨gb',q1,q2⟩:=hs.bxs.box _ _ hb
     rw [e1] at q1
     cases q1
     exact ⟨gb,e2,hw,q2,fun blk p1 p2=>⟨b,gb,e1,p1,p2⟩⟩
    ·cases h
  ·cases h
 ·rename_i b off n full
  split at h
  ·rename_i S l' hb
   cases fz with
   | true=>cases h
   | false =>
    rw [cond_false] at h
    split at h
    ·rename_i hS
     subst hS
     simp only [Option.some.injEq] at h
     subst h
     obtain ⟨gb,v,e1,e2,e3,hw⟩:=(show GR g (.row b (.part off n full)) [c] from hv)
     simp only [List.cons.injEq,and_true] at e3
     subst e3
     obtain ⟨gb',q1,q2⟩:=hs.bxs.box _ _ hb
     rw [e1] at q1
     cases q1
     have hlen:gb.len = l'.length:=q2.2.2.1
     have hform:∃ a0 c0,c = .slice a0 (Win.app (.part off n full) l').length c0∧(Win.app (.part off n full) l').length≤c0:=by
      unfold WinR at hw
      cases hbl:gb.blk with
      | none =>
       simp only [hbl] at hw
       obtain ⟨rfl,rfl,_,rfl⟩:=hw
       exact ⟨gb.ad,0,by simp [Win.app],by simp [Win.app]⟩
      | some blk =>
       simp only [hbl] at hw
       obtain ⟨w1,a,c0,rfl,_,w2,_⟩:=hw
       have hl:(Win.app (.part off n full) l').length = n:=by simp only [Win.app,List.length_take,List.length_drop]; omega
       exact ⟨_,c0,by rw [hl],by omega⟩
     obtain ⟨a0,c0,rfl,hle⟩:=hform
     obtain ⟨gb2,r1,r2,r3⟩:=rowWin_ok q2 hw hs.fz rfl hle
     exact ⟨gb2,r1.1,r3,r1,fun blk p1 p2=>⟨b,gb,e1,r2 blk p1 p2⟩⟩
    ·cases h
  ·cases h
 ·cases h
theorem fresh_core (hE:EnvOK P E) {f:Nat} {fn:Func} {c:Code} (hf:find E.F f = some fn) (hb:fn.body = some c) {T:Ty} {fr:Bool} {fz:Nat→Nat→Option Value} {w:World} {args:Array Value} {vs:List AV} {y:List T.den}
  (hG:GlobOK E.C fz) (hF:FzOK (.of fz) w) (ha:VsR (.of fz) vs args.toList) (h:runR E f fn c vs T fr = some y) :
  Calls P f args w fun e w'=>∃ v fz' gb,e = .returned v∧gb.isRow = true∧WinR gb .whole v∧BoxR (.of fz') (.row T fr y) gb w'∧(∀ blk,gb.blk = some blk→gb.own = true→w.heap.size≤blk)∧FzOK (.of fz') w'∧Tr (.of fz) w (.of fz') w':=by
 unfold runR at h
 have hs0:StR (.of fz) { env:=params 0 vs,stk:=[],bxs:=[] } (args++Array.replicate (fn.ntmps - args.size) undef) [] w:=⟨envR_params ha _,trivial,bxR_nil,hF⟩
 refine body_ok hE (inlineC_ok hE depth) hf hb hs0 hG (K:=fun _ m s=>match m with
   | .ret=>match resOf E.C s fn.results.toList with
    | some [v]=>resRow (bif fr then frzL s.bxs [v] else s.bxs) T fr v
    | _=>none
   | _=>none) (L:=0) rfl h ?_
 intro s1 m s' tm' g' w' hk hs' ht
 cases m with
 | rcv p=>trivial
 | pan p=>cases hk
 | ret =>
  simp only at hk
  split at hk
  ·rename_i v hvs
   obtain ⟨cs,h1,h2,h3⟩:=results_ok hE.cfg hs' hvs
   have hst:∃ fz1,StR ⟨fz1,g'.bx⟩ { s' with bxs:=bif fr then frzL s'.bxs [v] else s'.bxs } tm' [] w'∧Tr g' w' ⟨fz1,g'.bx⟩ w':=by
    cases fr with
    | false=>exact ⟨g'.fz,hs',Tr.refl _ _⟩
    | true=>exact StR.frzL [v] hs'
   obtain ⟨fz1,h4,t4⟩:=hst
   have hx:ExtBut none g' ⟨fz1,g'.bx⟩:=⟨t4.fz,fun _ _ _ h=>h,fun _ _ h _=>nomatch h⟩
   match cs,h2 with
   | [c],h2 =>
    obtain ⟨gb,k1,k2,k3,k4⟩:=resRow_ok h4 hk (h2.1.grow hx)
    have t5:=ht.trans t4
    exact ⟨_,run_results h1,c,fz1,gb,rfl,k1,k2,boxR_fzSame rfl k3,fun blk e1 e2=>(t5.own blk (k4 blk e1 e2)).resolve_left (not_owned _ _),h4.fz,⟨t5.os,t5.tape,t5.output,t5.size,t5.fz,t5.fzNew,fun b h=>(not_owned _ _ h).elim,t5.block⟩⟩
   | [],h2=>exact h2.elim
   | _ :: _ :: _,h2=>exact h2.2.elim
  ·cases hk
theorem fresh_of_run (hE:EnvOK P E) {f:Nat} {fn:Func} {c:Code} (hf:find E.F f = some fn) (hb:fn.body = some c) (p:RSpec) (hp:∀ x y,p.fn x = some y→runR E f fn c (tysAV p.args x) p.T p.fz = some y):FreshOK P E.C f p:=by
 intro fz w args x y hG hF ha hx
 exact fresh_core hE hf hb hG hF (TVs.vsR (g:=.of fz) ha) (hp x y hx)
theorem decV_ok {R:Type} {g:Gh} {bxs:Bxs} {w:World} (hb:BxW g bxs w) (hf:FzOK g w) {ks:List Nat}:∀ {l:List Sh} {vs:List AV} {K:shDen l→Option R} {r:R} {cs:List Value},l.all (fun x=>x.ok ks && (match x with | .cst v=>v.okGs | .ty _=>true | .dyn _=>true)) = true→decV bxs l vs K = some r→VsR g vs cs →
  ∃ x,K x = some r∧VsR (g.keep ks) (encV l x) cs
 | [],[],K,r,[],_,h,_=>⟨(),h,trivial⟩
 | [],[],_,_,_ :: _,_,_,h=>h.elim
 | .ty T :: l,v :: vs,K,r,c :: cs,hk,h,⟨h1,h2⟩=>by
  simp only [List.all_cons,Bool.and_eq_true] at hk
  simp only [decV] at h
  split at h
  ·rename_i x hx
   obtain ⟨y,h3,h4⟩:=decV_ok hb hf hk.2 h h2
   exact ⟨(x,y),h3,(TV.vr (g:=g.keep ks) (norm_tv hb hf hx h1)).vr',h4⟩
  ·cases h
 | .cst u :: l,v :: vs,K,r,c :: cs,hk,h,⟨h1,h2⟩=>by
  simp only [List.all_cons,Bool.and_eq_true] at hk
  simp only [decV] at h
  cases hs:v.same u
  ·rw [hs] at h; cases h
  ·rw [hs] at h
   simp only [cond_true] at h
   have:=same_eq hs
   subst this
   obtain ⟨y,h3,h4⟩:=decV_ok hb hf hk.2 h h2
   exact ⟨y,h3,vr_keep hk.1.1 h1,h4⟩
 | _ :: _,_ :: _,_,_,[],_,_,h=>h.elim
 | [],_ :: _,_,_,_,_,h,_=>by simp [decV] at h
 | .ty _ :: _,[],_,_,_,_,h,_=>by simp [decV] at h
 | .cst _ :: _,[],_,_,_,_,h,_=>by simp [decV] at h
 | .dyn k :: l,v :: vs,K,r,c :: cs,hk,h,⟨h1,h2⟩=>by
  simp only [List.all_cons,Bool.and_eq_true] at hk
  simp only [decV] at h
  split at h
  ·rename_i x hx
   obtain ⟨y,h3,h4⟩:=decV_ok hb hf hk.2 h h2
   exact ⟨(x,y),h3,vr_keep (dyn_keys hk.1.1 x) ((dyn_ok hb hx).2.1 _ h1),h4⟩
  ·cases h
 | .dyn _ :: _,[],_,_,_,_,h,_=>by simp [decV] at h
theorem varPtrs_ok {g:Gh} {w:World}:∀ (l:List (Nat × BSh)) (n:Nat),(∀ k sh,(k,BSh.var sh)∈l→∃ gb blk,g.bx k = some gb∧gb.isRow = false∧gb.blk = some blk) →
  ∃ tm:Nat→Value,∀ m v,find (varPtrs n l) m = some v→n≤m∧VR g v (tm m)
 | [],n,_=>⟨fun _=>undef,fun _ _ h=>nomatch h⟩
 | (k,.row _ _) :: l,n,h=>by
  obtain ⟨tm,h1⟩:=varPtrs_ok (g:=g) (w:=w) l n (fun k sh hm=>h k sh (by simp [hm]))
  exact ⟨tm,h1⟩
 | (k,.loop _ _ _ _) :: l,n,h=>by
  obtain ⟨tm,h1⟩:=varPtrs_ok (g:=g) (w:=w) l n (fun k sh hm=>h k sh (by simp [hm]))
  exact ⟨tm,h1⟩
 | (k,.map _ _) :: l,n,h=>by
  obtain ⟨tm,h1⟩:=varPtrs_ok (g:=g) (w:=w) l n (fun k sh hm=>h k sh (by simp [hm]))
  exact ⟨tm,h1⟩
 | (k,.var sh) :: l,n,h=>by
  obtain ⟨tm,h1⟩:=varPtrs_ok (g:=g) (w:=w) l (n + 1) (fun k sh hm=>h k sh (by simp [hm]))
  obtain ⟨gb,blk,e1,e2,e3⟩:=h k sh (by simp)
  refine ⟨fun m=>if m = n then .pointer (some ⟨blk,0,none⟩) else tm m,fun m v e=>?_⟩
  by_cases hm:n = m
  ·subst hm
   simp only [varPtrs,find_cons_same,Option.some.injEq] at e
   subst e
   exact ⟨Nat.le_refl _,gb,blk,e1,e2,e3,(fun _ h=>nomatch h),by simp [stepsOff]⟩
  ·simp only [varPtrs,find_cons_other _ _ hm] at e
   obtain ⟨h2,h3⟩:=h1 m v e
   refine ⟨by omega,?_⟩
   simp only
   rw [if_neg (Ne.symm hm)]
   exact h3
theorem varPtrs_lt:∀ (l:List (Nat × BSh)) (n m:Nat) (v:AV),find (varPtrs n l) m = some v→m < n + l.length
 | (k,.row _ _) :: l,n,m,v,h=>by
  have:=varPtrs_lt l n m v h
  simp only [List.length_cons]; omega
 | (k,.loop _ _ _ _) :: l,n,m,v,h=>by
  have:=varPtrs_lt l n m v h
  simp only [List.length_cons]; omega
 | (k,.map _ _) :: l,n,m,v,h=>by
  have:=varPtrs_lt l n m v h
  simp only [List.length_cons]; omega
 | (k,.var sh) :: l,n,m,v,h=>by
  by_cases hm:n = m
  ·simp only [List.length_cons]; omega
  ·simp only [varPtrs,find_cons_other _ _ hm] at h
   have:=varPtrs_lt l (n + 1) m v h
   simp only [List.length_cons]; omega
theorem varPtrs_mem:∀ {l:List (Nat × BSh)} {n:Nat} {k:Nat} {sh:List Sh},(k,BSh.var sh)∈l→∃ m,(m,AV.ptr k 0 [])∈varPtrs n l
 | (j,.row _ _) :: l,n,k,sh,h=>by
  rcases List.mem_cons.1 h with h | h
  ·cases h
  ·exact varPtrs_mem (l:=l) h
 | (j,.loop _ _ _ _) :: l,n,k,sh,h=>by
  rcases List.mem_cons.1 h with h | h
  ·cases h
  ·exact varPtrs_mem (l:=l) h
 | (j,.map _ _) :: l,n,k,sh,h=>by
  rcases List.mem_cons.1 h with h | h
  ·cases h
  ·exact varPtrs_mem (l:=l) h
 | (j,.var gs) :: l,n,k,sh,h=>by
  rcases List.mem_cons.1 h with h | h
  ·cases h; exact ⟨n,by simp [varPtrs]⟩
  ·obtain ⟨m,hm⟩:=varPtrs_mem (l:=l) (n:=n + 1) h
   exact ⟨m,by simp [varPtrs,hm]⟩
theorem ptrsOk_mem {env:Env}:∀ {l:Env},ptrsOk env l = true→∀ n v,(n,v)∈l→find env n = some v
 | (m,u) :: l,h,n,v,hm=>by
  simp only [ptrsOk,Bool.and_eq_true] at h
  rcases List.mem_cons.1 hm with e | hm
  ·cases e
   have h1:=h.1
   split at h1
   ·rename_i x hx
    rw [hx,same_eq h1]
   ·cases h1
  ·exact ptrsOk_mem h.2 n v hm
theorem enc_mem_var {l:List (Nat × BSh)} (hl:∀ k sh,(k,sh)∈l→sh.odd = false) {x:bxsDen l} {k:Nat} {gs:List AV} (h:find (encBxs l x) k = some (.var gs)):∃ sh,(k,BSh.var sh)∈l:=by
 rcases find_enc h with ⟨_,_,_,e,_⟩ | ⟨sh,_,_,m⟩ | ⟨sh,m,e⟩
 ·cases e
 ·exact ⟨sh,m⟩
 ·rw [hl _ _ m] at e; cases e
theorem call_of_run (hE:EnvOK P E) {f:Nat} {fn:Func} {c:Code} (hf:find E.F f = some fn) (hb:fn.body = some c) (p:CSpec) (hok:p.ok = true) (hp:∀ x y,p.fn x = some y→runS E f fn c p x = some y):CallOK P E.C f p:=by
 intro g w vals xa xb y hG hs hy
 have h:=hp _ _ hy
 simp only [CSpec.ok,Bool.and_eq_true] at hok
 obtain ⟨⟨⟨⟨⟨a1,a2⟩,a3⟩,a4⟩,a5⟩,a6⟩:=hok
 obtain ⟨hkeys,hrows⟩:=kindOk_keys a5
 unfold runS at h
 have hvars:∀ k sh,(k,BSh.var sh)∈p.ins→∃ gb blk,g.bx k = some gb∧gb.isRow = false∧gb.blk = some blk:=by
  intro k sh hm
  have hsome:=find_encBxs (l:=p.ins) (x:=xb) (k:=k) (List.mem_map.2 ⟨_,hm,rfl⟩)
  obtain ⟨b,hbk⟩:=Option.isSome_iff_exists.1 hsome
  obtain ⟨gb,e1,e2⟩:=hs.bxs.box k b hbk
  have hnr:k ∉ rowKeys p.ins:=by
   intro hr
   have:∀ {l:List (Nat × BSh)},idsOk (l.map (·.1)) = true→(k,BSh.var sh)∈l→k ∉ rowKeys l:=by
    intro l
    induction l with
    | nil=>intro _ h; cases h
    | cons x l ih =>
     intro hi hm hr
     obtain ⟨j,d⟩:=x
     simp only [List.map_cons,idsOk,Bool.and_eq_true,Bool.not_eq_true'] at hi
     rcases List.mem_cons.1 hm with e | hm2
     ·cases e
      simp only [rowKeys] at hr
      rw [List.contains_iff_mem.2 (mem_rowKeys hr)] at hi
      cases hi.1
     ·cases d with
      | row T fz =>
       simp only [rowKeys,List.mem_cons] at hr
       rcases hr with rfl | hr
       ·have hc:(l.map (·.1)).contains k = true:=List.contains_iff_mem.2 (List.mem_map.2 ⟨(k,BSh.var sh),hm2,rfl⟩)
        rw [hc] at hi
        cases hi.1
       ·exact ih hi.2 hm2 hr
      | var gs =>
       simp only [rowKeys] at hr
       exact ih hi.2 hm2 hr
      | loop u f i e =>
       simp only [rowKeys] at hr
       exact ih hi.2 hm2 hr
      | map S V =>
       simp only [rowKeys] at hr
       exact ih hi.2 hm2 hr
   exact this a6 hm hr
  rcases find_enc hbk with ⟨T,fz,l,_,m⟩ | ⟨sh',l,rfl,_⟩ | ⟨sh',m,modd⟩
  rotate_left 2
  ·exact absurd modd (by rw [(kindOk_noLoop a5).1 _ _ m]; decide)
  ·exact absurd m hnr
  ·obtain ⟨k1,k2,blk,cells,k3,_⟩:=e2
   exact ⟨gb,blk,e1,k1,k3⟩
 obtain ⟨tmf,htm⟩:=varPtrs_ok (w:=w) p.ins 0 hvars
 let tmp:Array Value:=(Array.range p.ins.length).map tmf
 have htmp:EnvR g (varPtrs 0 p.ins) tmp:=by
  intro n v e
  have hlt:=varPtrs_lt p.ins 0 n v e
  have:tmp.getD n undef = tmf n:=by
   simp only [tmp,Array.getD_eq_getD_getElem?,Array.getElem?_map,Array.getElem?_range]
   rw [if_pos (by omega)]
   rfl
  rw [this]
  exact (htm n v e).2
 have henv:EnvR g (encEnv p.args xa) (vals++Array.replicate (fn.ntmps - vals.size) undef):=by
  intro n v e
  have:=hs.env n v e
  have eq:(vals++Array.replicate (fn.ntmps - vals.size) undef).getD n undef = vals.getD n undef:=by
   simp only [Array.getD_eq_getD_getElem?]
   by_cases hn:n < vals.size
   ·rw [Array.getElem?_append_left hn]
   ·rw [Array.getElem?_append_right (by omega),Array.getElem?_eq_none (show vals.size≤n by omega),Array.getElem?_replicate]
    split <;> rfl
  rw [eq]
  exact this
 have hs0:StR g { env:=encEnv p.args xa,stk:=[varPtrs 0 p.ins],bxs:=encBxs p.ins xb } (vals++Array.replicate (fn.ntmps - vals.size) undef) [tmp] w:=⟨henv,⟨htmp,trivial⟩,hs.bxs,hs.fz⟩
 refine body_ok hE (inlineC_ok hE depth) hf hb hs0 hG (K:=fun _ m s=>match m with
   | .ret=>match resOf E.C s fn.results.toList with
    | some vs =>
     let bx:=frzL s.bxs (tyGs p.res vs++tyValsB s.bxs p.outs)
     bif (match s.stk with | [e]=>ptrsOk e (varPtrs 0 p.ins) | _=>false) then decV bx p.res vs fun ya=>decBxs bx p.outs fun yb=>some (ya,yb) else none
    | none=>none
   | _=>none) (L:=1) rfl h ?_
 intro s1 m s' tm' g' w' hk hs' ht
 cases m with
 | rcv p=>trivial
 | pan p=>cases hk
 | ret =>
  simp only at hk
  split at hk
  ·rename_i vs hvs
   obtain ⟨cs,h1,h2,h3⟩:=results_ok hE.cfg hs' hvs
   obtain ⟨fz1,h4,t4⟩:=StR.frzL (tyGs p.res vs++tyValsB s'.bxs p.outs) hs'
   generalize frzL s'.bxs (tyGs p.res vs++tyValsB s'.bxs p.outs) = bx at hk h4
   cases hptr:(match s'.stk with | [e]=>ptrsOk e (varPtrs 0 p.ins) | _=>false) with
   | false=>rw [hptr] at hk; cases hk
   | true =>
    rw [hptr,cond_true] at hk
    have hx:ExtBut none g' ⟨fz1,g'.bx⟩:=⟨t4.fz,fun _ _ _ h=>h,fun _ _ h _=>nomatch h⟩
    have hvm:∀ {l:List AV} {cs:List Value},VsR g' l cs→VsR ⟨fz1,g'.bx⟩ l cs:=by
     intro l
     induction l with
     | nil=>intro cs h; cases cs <;> exact h
     | cons v l ih =>
      intro cs h
      cases cs with
      | nil=>exact h.elim
      | cons c cs=>exact ⟨h.1.grow hx,ih h.2⟩
    obtain ⟨ya,k1,k2⟩:=decV_ok h4.bxs.w h4.fz a3 hk (hvm h2)
    obtain ⟨yb,k3,k4⟩:=decBxs_ok h4.fz h4.bxs.w a4 k1
    cases k3
    have t5:=ht.trans t4
    obtain ⟨ks,hks⟩:∃ ks,ks = p.ins.map (·.1):=⟨_,rfl⟩
    rw [← hks] at k2 k4
    refine ⟨_,run_results h1,cs,Gh.keep ⟨fz1,g'.bx⟩ ks,rfl,k2,⟨?_,?_,?_⟩,h4.fz,t5.trans ⟨rfl,rfl,rfl,Nat.le_refl _,fun _ _ _ h=>h,fun _ _ h=>.inl h,?_,fun _ _ _=>rfl⟩,?_⟩
    ·intro k b e
     obtain ⟨gb,e1,e2⟩:=k4 k b e
     exact ⟨gb,by rw [keep_in _ (List.contains_iff_mem.2 (by rw [hks,hkeys]; exact find_encBxs_mem e))]; exact e1,e2⟩
    ·intro k gb e
     simp only [Gh.keep] at e
     split at e
     ·rename_i hm
      exact find_encBxs (by rw [← hkeys,← hks]; exact hm)
     ·cases e
    ·intro k j a b blk hne e1 e2
     simp only [Gh.keep] at e1 e2
     split at e1
     ·split at e2
      ·exact h4.bxs.sep k j a b blk hne e1 e2
      ·cases e2
     ·cases e1
    ·rintro b ⟨k,gb,e1,e2⟩
     simp only [Gh.keep] at e1
     split at e1
     ·exact .inl ⟨k,gb,e1,e2⟩
     ·cases e1
    ·intro k gb e1 e2
     obtain ⟨b,hbk⟩:=Option.isSome_iff_exists.1 (hs.bxs.dom k gb e1)
     obtain ⟨gb',f1,f2⟩:=hs.bxs.box k b hbk
     rw [e1] at f1
     cases f1
     cases b with
     | row T fz l=>rw [f2.1] at e2; cases e2
     | dead =>
      rcases find_enc hbk with ⟨_,_,_,e,_⟩ | ⟨_,_,e,_⟩ | ⟨_,m,e⟩
      ·cases e
      ·cases e
      ·rw [(kindOk_noLoop a5).1 _ _ m] at e; cases e
     | map K V l =>
      rcases find_enc hbk with ⟨_,_,_,e,_⟩ | ⟨_,_,e,_⟩ | ⟨_,m,e⟩
      ·cases e
      ·cases e
      ·rw [(kindOk_noLoop a5).1 _ _ m] at e; cases e
     | loop u f i e =>
      rcases find_enc hbk with ⟨_,_,_,e,_⟩ | ⟨_,_,e,_⟩ | ⟨_,m,e⟩
      ·cases e
      ·cases e
      ·rw [(kindOk_noLoop a5).1 _ _ m] at e; cases e
     | var gs =>
      obtain ⟨sh,hm⟩:=enc_mem_var (kindOk_noLoop a5).1 hbk
      obtain ⟨_,_,blk,cells,f3,_⟩:=f2
      obtain ⟨m,hmem⟩:=varPtrs_mem (n:=0) hm
      cases hst:s'.stk with
      | nil=>rw [hst] at hptr; cases hptr
      | cons e0 st0 =>
       cases st0 with
       | cons e1 st1=>rw [hst] at hptr; cases hptr
       | nil =>
        rw [hst] at hptr
        have hfd:=ptrsOk_mem hptr m _ hmem
        have hstk:=hs'.stk
        rw [hst] at hstk
        obtain ⟨gb2,blk2,q1,q2,q3,_,q4⟩:=hstk.1 m _ hfd
        have h0:VR g (.ptr k 0 []) (tmp.getD m undef):=by
         have hf0:find (varPtrs 0 p.ins) m = some (.ptr k 0 []):=by
          have nd:∀ {l:List (Nat × BSh)} {n m:Nat} {v:AV},(m,v)∈varPtrs n l→n≤m∧find (varPtrs n l) m = some v:=by
           intro l
           induction l with
           | nil=>intro n m v h; cases h
           | cons x l ih =>
            intro n m v h
            obtain ⟨j,d⟩:=x
            cases d with
            | row T fz=>exact ih h
            | loop u f i e=>exact ih h
            | map S V=>exact ih h
            | var gs =>
             simp only [varPtrs,List.mem_cons] at h
             rcases h with h | h
             ·cases h; exact ⟨Nat.le_refl _,by simp only [varPtrs,find_cons_same]⟩
             ·obtain ⟨i1,i2⟩:=ih h
              exact ⟨by omega,by simp only [varPtrs]; rw [find_cons_other _ _ (by omega)]; exact i2⟩
          exact (nd hmem).2
         exact htmp m _ hf0
        obtain ⟨gb3,blk3,r1,r2,r3,_,r4⟩:=h0
        rw [e1] at r1
        cases r1
        rw [r4] at q4
        simp only [List.cons.injEq,Value.pointer.injEq,Option.some.injEq,Addr.mk.injEq,and_true] at q4
        refine ⟨gb2,?_,q2,?_⟩
        ·rw [keep_in _ (List.contains_iff_mem.2 (by rw [hks]; exact List.mem_map.2 ⟨_,hm,rfl⟩))]
         exact q1
        ·rw [q3,r3,q4]
  ·cases hk
end
end Go.V
namespace Go.V
variable [Codes]
inductive ZG where
 | val (T:Ty) | nils | nilp | nilf | nili
def ZG.av:ZG→AV
 | .val T=>.val T T.dflt
 | .nils=>.nils
 | .nilp=>.nilp
 | .nilf=>.nilf
 | .nili=>.nili
def chkN (f:List Value→Option (List Value)):Nat→List Value→Option (List Value)
 | 0,l=>some l
 | n + 1,l=>match f l with
  | some r=>chkN f n r
  | none=>none
def chkT:Ty→List Value→Option (List Value)
 | .int k,.int j x :: r=>if k = j∧x = 0 then some r else none
 | .bool,.bool false :: r=>some r
 | .str,.string s :: r=>if s.size = 0 then some r else none
 | .sl _,.slice none 0 0 :: r=>some r
 | .unit,l=>some l
 | .pair a b,l=>match chkT a l with
  | some r=>chkT b r
  | none=>none
 | .arr n e,l=>chkN (fun l=>chkT e l) n l
 | _,_=>none
theorem chkN_ok {α:Type} {f:List Value→Option (List Value)} {Q:α→List Value→Prop} {x:α} (h:∀ cs r,f cs = some r→∃ c,cs = c++r∧Q x c):∀ {n:Nat} {cs r:List Value},chkN f n cs = some r→∃ c,cs = c++r∧Elems Q (List.replicate n x) c
 | 0,cs,r,e=>by
  simp only [chkN,Option.some.injEq] at e
  exact ⟨[],by simp [e],rfl⟩
 | n + 1,cs,r,e=>by
  simp only [chkN] at e
  split at e
  ·rename_i r1 h1
   obtain ⟨c1,rfl,q1⟩:=h _ _ h1
   obtain ⟨c2,rfl,q2⟩:=chkN_ok h e
   exact ⟨c1++c2,by simp,c1,c2,rfl,q1,q2⟩
  ·cases e
theorem chkT_ok {fz:Nat→Nat→Option Value}:∀ {T:Ty} {cs r:List Value},chkT T cs = some r→∃ c,cs = c++r∧CR fz T T.dflt c:=by
 intro T
 induction T with
 | int k =>
  intro cs r h
  match cs,h with
  | .int j x :: r',h =>
   simp only [chkT] at h
   split at h
   ·rename_i hc
    simp only [Option.some.injEq] at h
    subst h
    exact ⟨[_],rfl,by rw [hc.1,hc.2]; rfl⟩
   ·cases h
 | bool =>
  intro cs r h
  match cs,h with
  | .bool false :: r',h=>simp only [chkT,Option.some.injEq] at h; subst h; exact ⟨[_],rfl,rfl⟩
 | str =>
  intro cs r h
  match cs,h with
  | .string s :: r',h =>
   simp only [chkT] at h
   split at h
   ·rename_i hs
    simp only [Option.some.injEq] at h
    subst h
    refine ⟨[_],rfl,?_⟩
    have:s = ⟨#[]⟩:=by
     obtain ⟨a⟩:=s
     congr 1
     exact Array.eq_empty_of_size_eq_zero hs
    rw [this]
    rfl
   ·cases h
 | sl e _ =>
  intro cs r h
  match cs,h with
  | .slice none 0 0 :: r',h=>simp only [chkT,Option.some.injEq] at h; subst h; exact ⟨[_],rfl,_,rfl,.inl ⟨rfl,_,rfl⟩⟩
 | unit =>
  intro cs r h
  simp only [chkT,Option.some.injEq] at h
  subst h
  exact ⟨[],rfl,rfl⟩
 | pair a b iha ihb =>
  intro cs r h
  simp only [chkT] at h
  split at h
  ·rename_i r1 h1
   obtain ⟨c1,rfl,q1⟩:=iha h1
   obtain ⟨c2,rfl,q2⟩:=ihb h
   exact ⟨c1++c2,by simp,c1,c2,rfl,q1,q2⟩
  ·cases h
 | arr n e ih =>
  intro cs r h
  simp only [chkT] at h
  obtain ⟨c,e1,e2⟩:=chkN_ok (Q:=CR fz e) (x:=e.dflt) (fun cs r h=>ih h) h
  exact ⟨c,e1,by simp [Ty.dflt],e2⟩
def chkZ:List ZG→List Value→Bool
 | [],[]=>true
 | .val T :: l,cs=>match chkT T cs with
  | some r=>chkZ l r
  | none=>false
 | .nils :: l,.slice none 0 0 :: r=>chkZ l r
 | .nilp :: l,.pointer none :: r=>chkZ l r
 | .nilf :: l,.nilFunc :: r=>chkZ l r
 | .nili :: l,.nilIface :: r=>chkZ l r
 | _,_=>false
theorem chkZ_ok {g:Gh}:∀ {l:List ZG} {cs:List Value},chkZ l cs = true→GsR g (l.map ZG.av) cs
 | [],[],_=>rfl
 | [],_ :: _,h=>by simp [chkZ] at h
 | .val T :: l,cs,h=>by
  simp only [chkZ] at h
  split at h
  ·rename_i r hr
   obtain ⟨c,rfl,q⟩:=chkT_ok (fz:=g.fz) hr
   exact ⟨c,r,rfl,q,chkZ_ok h⟩
  ·cases h
 | .nils :: l,cs,h=>by
  match cs,h with
  | .slice none 0 0 :: r,h=>exact ⟨[_],r,rfl,rfl,chkZ_ok h⟩
 | .nilp :: l,cs,h=>by
  match cs,h with
  | .pointer none :: r,h=>exact ⟨[_],r,rfl,rfl,chkZ_ok h⟩
 | .nilf :: l,cs,h=>by
  match cs,h with
  | .nilFunc :: r,h=>exact ⟨[_],r,rfl,rfl,chkZ_ok h⟩
 | .nili :: l,cs,h=>by
  match cs,h with
  | .nilIface :: r,h=>exact ⟨[_],r,rfl,rfl,chkZ_ok h⟩
def chkU (u:UT) (d:Option TypeDesc):Bool :=
 match u,d with
 | .int k,some (.int j)=>decide (k = j)
 | .bool,some .bool=>true
 | .str,some .string=>true
 | .ptr e,some (.pointer e')=>Nat.beq e e'
 | .sl e,some (.slice e')=>Nat.beq e e'
 | .arr n e,some (.array n' e')=>Nat.beq n n' && Nat.beq e e'
 | .st fs,some (.struct fields)=>decide (fields.toList.map (fun f=>(f.offset,f.type)) = fs)
 | .fn,some (.func _ _ _)=>true
 | .iface,some (.interface _)=>true
 | .map k e,some (.map k' e')=>Nat.beq k k' && Nat.beq e e'
 | .tup,_=>true
 | .oth,_=>true
 | _,_=>false
def chkI (C:Cfg) (t:Nat) (i:TypeInfo):Bool:=Nat.beq i.size (C.size t) && Nat.beq i.bytes (C.bytes.getD t 0)
def isAggV:Value→Bool
 | .agg _=>true
 | _=>false
def chkForm (C:Cfg) (P:Program) (t:Nat):Bool :=
 (match C.ty t with
  | some (.int k)=>(match P.underlying t with | some (.int j)=>decide (k = j) | _=>false)
  | _=>true) &&
 (match P.info? t with
  | none=>true
  | some i=>match i.zero with
   | none=>true
   | some z=>(match C.under t with
     | .st _=>isAggV z
     | u=>u.agg || !u.conc || !isAggV z) &&
    (match C.ty t with
     | some T=>T.isAgg == isAggV z
     | none=>true))
def checkAt (C:Cfg) (zs:List (Option (List ZG))) (P:Program) (t:Nat):Bool :=
 chkU (C.under t) (P.underlying t) &&
 (Nat.beq (C.size t) 0 || (match P.info? t with | some i=>chkI C t i | none=>false)) &&
 (match zs.getD t none with
  | none=>true
  | some gs=>match P.info? t with
   | some i=>chkI C t i && (match i.zero with | some z=>chkZ gs z.cells.toList | none=>false)
   | none=>false) &&
 (match C.ty t with
  | none=>true
  | some T=>Nat.beq T.size (C.size t) && (match P.info? t with
   | some i=>chkI C t i && Nat.ble i.bytes 65536 && (match i.zero with
    | some z=>(match chkT T z.cells.toList with | some []=>true | _=>false)
    | none=>false)
   | none=>false)) && chkForm C P t
theorem chkI_ok {C:Cfg} {t:Nat} {i:TypeInfo} (h:chkI C t i = true):i.size = C.size t∧i.bytes = C.bytes.getD t 0:=by
 simp only [chkI,Bool.and_eq_true] at h
 exact ⟨Nat.eq_of_beq_eq_true h.1,Nat.eq_of_beq_eq_true h.2⟩
theorem getD_le {α:Type} {l:List α} {n:Nat} {d:α} (h:l.length≤n):l.getD n d = d:=by
 simp [List.getD,List.getElem?_eq_none h]
def chkEq (P:Program) (t:Nat):Bool :=
 (match P.underlying t with | some (.struct _)=>true | _=>false) && !P.stoodInHeld t && !P.eqGuardType P.depth t && eqFieldsOk 0 (P.fieldsOf t).toList
theorem cfgOK_of {C:Cfg} {P:Program} (zs:List (Option (List ZG))) (N:Nat) (he:C.eqs.all (chkEq P) = true) (hz:C.zeros = zs.map (Option.map (List.map ZG.av))) (h1:C.unders.length≤N) (h2:C.sizes.length≤N) (h3:C.tys.length≤N) (h4:zs.length≤N)
  (h:(List.range N).all (checkAt C zs P) = true):CfgOK C P:=by
 have at_:∀ t,t < N→checkAt C zs P t = true:=fun t ht=>List.all_eq_true.1 h t (List.mem_range.2 ht)
 have under:∀ t,C.under t ≠ .oth→chkU (C.under t) (P.underlying t) = true:=by
  intro t ht
  by_cases hN:t < N
  ·have:=at_ t hN
   simp only [checkAt,Bool.and_eq_true] at this
   exact this.1.1.1.1
  ·exact absurd (getD_le (Nat.le_trans h1 (Nat.le_of_not_lt hN))) ht
 have go:∀ t u,C.under t = u→u ≠ .oth→chkU u (P.underlying t) = true:=fun t u e hn=>by
  have:=under t (by rw [e]; exact hn)
  rwa [e] at this
 have form:∀ t,t < N→chkForm C P t = true:=fun t ht=>by
  have:=at_ t ht
  simp only [checkAt,Bool.and_eq_true] at this
  exact this.2
 refine ⟨?_,?_,?_,?_,?_,?_,?_,?_,?_,?_,?_,?_,?_,?_,?_,?_,?_,?_⟩
 ·intro t k e
  have:=go t _ e (by simp)
  unfold chkU at this
  split at this <;> first | (rename_i h1 h2; cases h1; done) | (rename_i h1; cases h1; done) | (cases this; done) | skip
  rename_i k' j h1 h2
  cases h1
  rw [of_decide_eq_true this]
  exact h2
 ·intro t e
  have:=go t _ e (by simp)
  unfold chkU at this
  split at this <;> first | (rename_i h1 h2; cases h1; done) | (rename_i h1; cases h1; done) | (cases this; done) | skip
  rename_i h1 h2
  exact h2
 ·intro t e
  have:=go t _ e (by simp)
  unfold chkU at this
  split at this <;> first | (rename_i h1 h2; cases h1; done) | (rename_i h1; cases h1; done) | (cases this; done) | skip
  rename_i h1 h2
  exact h2
 ·intro t e he
  have:=go t _ he (by simp)
  unfold chkU at this
  split at this <;> first | (rename_i h1 h2; cases h1; done) | (rename_i h1; cases h1; done) | (cases this; done) | skip
  rename_i a b h1 h2
  cases h1
  rw [Nat.eq_of_beq_eq_true this]
  exact h2
 ·intro t e he
  have:=go t _ he (by simp)
  unfold chkU at this
  split at this <;> first | (rename_i h1 h2; cases h1; done) | (rename_i h1; cases h1; done) | (cases this; done) | skip
  rename_i a b h1 h2
  cases h1
  rw [Nat.eq_of_beq_eq_true this]
  exact h2
 ·intro t n e he
  have:=go t _ he (by simp)
  unfold chkU at this
  split at this <;> first | (rename_i h1 h2; cases h1; done) | (rename_i h1; cases h1; done) | (cases this; done) | skip
  rename_i a b c d h1 h2
  cases h1
  simp only [Bool.and_eq_true] at this
  rw [Nat.eq_of_beq_eq_true this.1,Nat.eq_of_beq_eq_true this.2]
  exact h2
 ·intro t fs he
  have:=go t _ he (by simp)
  unfold chkU at this
  split at this <;> first | (rename_i h1 h2; cases h1; done) | (rename_i h1; cases h1; done) | (cases this; done) | skip
  rename_i a b h1 h2
  cases h1
  exact ⟨_,h2,of_decide_eq_true this⟩
 ·intro t he
  have:=go t _ he (by simp)
  unfold chkU at this
  split at this <;> first | (rename_i h1 h2; cases h1; done) | (rename_i h1; cases h1; done) | (cases this; done) | skip
  rename_i a b c h1 h2
  exact ⟨_,_,_,h2⟩
 ·intro t he
  have:=go t _ he (by simp)
  unfold chkU at this
  split at this <;> first | (rename_i h1 h2; cases h1; done) | (rename_i h1; cases h1; done) | (cases this; done) | skip
  rename_i a h1 h2
  exact ⟨_,h2⟩
 ·intro t k e he
  have:=go t _ he (by simp)
  unfold chkU at this
  split at this <;> first | (rename_i h1 h2; cases h1; done) | (rename_i h1; cases h1; done) | (cases this; done) | skip
  rename_i a b c d h1 h2
  cases h1
  simp only [Bool.and_eq_true] at this
  rw [Nat.eq_of_beq_eq_true this.1,Nat.eq_of_beq_eq_true this.2]
  exact h2
 ·intro t ht
  have:=List.all_eq_true.1 he t (List.contains_iff_mem.1 ht)
  simp only [chkEq,Bool.and_eq_true,Bool.not_eq_true'] at this
  obtain ⟨⟨⟨h1,h2⟩,h3⟩,h4⟩:=this
  refine ⟨?_,h2,h3,h4⟩
  unfold Program.fieldsOf
  split at h1
  ·rename_i fs hu; rw [hu]
  ·cases h1
 ·intro t ht
  by_cases hN:t < N
  ·have:=at_ t hN
   simp only [checkAt,Bool.and_eq_true,Bool.or_eq_true] at this
   rcases this.1.1.1.2 with h | h
   ·exact absurd (Nat.eq_of_beq_eq_true h) ht
   ·split at h
    ·rename_i i hi
     exact ⟨i,hi,chkI_ok h⟩
    ·cases h
  ·exact absurd (getD_le (Nat.le_trans h2 (Nat.le_of_not_lt hN))) ht
 ·intro t gs hgs
  have e:(zs.getD t none).map (List.map ZG.av) = some gs:=by
   rw [← hgs,Cfg.zero,hz]
   simp only [List.getD,List.getElem?_map]
   cases zs[t]? <;> rfl
  rw [Option.map_eq_some_iff] at e
  obtain ⟨zg,e1,rfl⟩:=e
  by_cases hN:t < N
  ·have:=at_ t hN
   simp only [checkAt,Bool.and_eq_true] at this
   have h:=this.1.1.2
   rw [e1] at h
   simp only at h
   split at h
   ·rename_i i hi
    simp only [Bool.and_eq_true] at h
    obtain ⟨k1,k2⟩:=h
    split at k2
    ·rename_i z hiz
     obtain ⟨k3,k4⟩:=chkI_ok k1
     exact ⟨i,z,hi,k3,k4,hiz,fun g=>chkZ_ok k2⟩
    ·cases k2
   ·cases h
  ·rw [getD_le (Nat.le_trans h4 (Nat.le_of_not_lt hN))] at e1
   cases e1
 ·intro t T hT
  by_cases hN:t < N
  ·have:=at_ t hN
   simp only [checkAt,Bool.and_eq_true] at this
   have h:=this.1.2
   rw [hT] at h
   simp only [Bool.and_eq_true] at h
   obtain ⟨k0,h⟩:=h
   split at h
   ·rename_i i hi
    simp only [Bool.and_eq_true] at h
    obtain ⟨⟨k1,kb⟩,k2⟩:=h
    split at k2
    ·rename_i z hiz
     obtain ⟨k3,k4⟩:=chkI_ok k1
     refine ⟨Nat.eq_of_beq_eq_true k0,i,z,hi,k3,k4,Nat.le_of_ble_eq_true kb,hiz,fun fz=>?_⟩
     split at k2
     ·rename_i hr
      obtain ⟨c,e,q⟩:=chkT_ok (fz:=fz) hr
      rw [List.append_nil] at e
      rw [e]
      exact q
     ·cases k2
    ·cases k2
   ·cases h
  ·have e:C.ty t = none:=getD_le (Nat.le_trans h3 (Nat.le_of_not_lt hN))
   rw [e] at hT
   cases hT
 ·intro t k hT
  by_cases hN:t < N
  ·have h:=form t hN
   simp only [chkForm,hT,Bool.and_eq_true] at h
   have h1:=h.1
   split at h1
   ·rename_i j hj
    rw [of_decide_eq_true h1]
    exact hj
   ·cases h1
  ·have e:C.ty t = none:=getD_le (Nat.le_trans h3 (Nat.le_of_not_lt hN))
   rw [e] at hT
   cases hT
 ·intro t T hT i z hi hiz fz
  by_cases hN:t < N
  ·have h:=form t hN
   simp only [chkForm,hT,hi,hiz,Bool.and_eq_true] at h
   have h2:=eq_of_beq h.2.2
   have hc:CR fz T T.dflt z.cells.toList:=by
    have:=at_ t hN
    simp only [checkAt,Bool.and_eq_true] at this
    have h:=this.1.2
    rw [hT] at h
    simp only [hi,hiz,Bool.and_eq_true] at h
    have h5:=h.2.2
    split at h5
    ·rename_i hr
     obtain ⟨c,e,q⟩:=chkT_ok (fz:=fz) hr
     rw [List.append_nil] at e
     rw [e]
     exact q
    ·cases h5
   refine ⟨z.cells,hc,?_⟩
   cases z <;> simp only [isAggV] at h2 <;> rw [h2] <;> rfl
  ·have e:C.ty t = none:=getD_le (Nat.le_trans h3 (Nat.le_of_not_lt hN))
   rw [e] at hT
   cases hT
 ·intro t fs i z hu hi hiz
  by_cases hN:t < N
  ·have h:=form t hN
   simp only [chkForm,hu,hi,hiz,Bool.and_eq_true] at h
   have h2:=h.2.1
   cases z <;> simp only [isAggV,Bool.false_eq_true] at h2
   exact ⟨_,rfl⟩
  ·have e:C.under t = .oth:=getD_le (Nat.le_trans h1 (Nat.le_of_not_lt hN))
   rw [e] at hu
   cases hu
 ·intro t i z ha hcn hi hiz a hz
  subst hz
  by_cases hN:t < N
  ·have h:=form t hN
   simp only [chkForm,hi,hiz,Bool.and_eq_true] at h
   have h2:=h.2.1
   cases hu:C.under t <;> rw [hu] at h2 ha hcn <;> simp [UT.agg,UT.conc,isAggV] at h2 ha hcn
  ·have e:C.under t = .oth:=getD_le (Nat.le_trans h1 (Nat.le_of_not_lt hN))
   rw [e] at hcn
   cases hcn
theorem findLoop_ok:∀ {l:List Code},idsOk (l.map firstRegion) = true→∀ {b:Code},b∈l→findLoop l (firstRegion b) = b
 | [],_,_,h=>by simp at h
 | c :: l,hk,b,h=>by
  simp only [List.map_cons,idsOk,Bool.and_eq_true,Bool.not_eq_true'] at hk
  simp only [findLoop]
  by_cases he:firstRegion c = firstRegion b
  ·rw [he,Nat.beq_refl,cond_true]
   rcases List.mem_cons.1 h with rfl | h
   ·rfl
   ·have:(l.map firstRegion).contains (firstRegion c) = true:=by
     rw [List.contains_iff_mem,he]
     exact List.mem_map.2 ⟨b,h,rfl⟩
    rw [this] at hk
    cases hk.1
  ·rw [beq_false he,cond_false]
   rcases List.mem_cons.1 h with rfl | h
   ·exact absurd rfl he
   ·exact findLoop_ok hk.2 h
theorem loopAt_ok {tot:List Nat} {c b:Code} {fn:Func} (hb:fn.body = some c) (hf:funOk tot fn = true) (h:b∈loopsOf c):loopAt c (firstRegion b) = b:=by
 unfold funOk at hf
 rw [hb] at hf
 simp only [Bool.and_eq_true] at hf
 exact findLoop_ok hf.1.1.1.2 h
def LoopsOK (E:Env0):List (Key × LSpec)→Prop
 | []=>True
 | (k,l) :: r=>(∃ fn c,find E.F k.f = some fn∧fn.body = some c∧LoopOK E k.d k.f k.base (loopAt c k.id) l)∧LoopsOK E r
theorem findL_in {l:List (Key × LSpec)} {E:Env0} (h:LoopsOK E l) {k:Key} {s:LSpec} (hk:findL l k = some s):∃ fn c,find E.F k.f = some fn∧fn.body = some c∧LoopOK E k.d k.f k.base (loopAt c k.id) s:=by
 induction l with
 | nil=>cases hk
 | cons x l ih =>
  obtain ⟨j,u⟩:=x
  simp only [findL] at hk
  cases hb:j.beq k
  ·rw [hb] at hk; exact ih h.2 hk
  ·rw [hb] at hk
   simp only [cond_true,Option.some.injEq] at hk
   subst hk
   simp only [Key.beq,Bool.and_eq_true] at hb
   obtain ⟨fn,c,h1,h2,h3⟩:=h.1
   rw [← Nat.eq_of_beq_eq_true hb.1.1.1,← Nat.eq_of_beq_eq_true hb.1.1.2,← Nat.eq_of_beq_eq_true hb.1.2,← Nat.eq_of_beq_eq_true hb.2]
   exact ⟨fn,c,h1,h2,h3⟩
def FunsOK (E:Env0) (P:Program):List (Nat × Func)→Prop
 | []=>True
 | (f,fn) :: r=>(P.funcs[f]? = some fn∧funOk (E.totOf f) fn = true)∧FunsOK E P r
theorem funs_find {E:Env0} {P:Program}:∀ {l:List (Nat × Func)},FunsOK E P l→∀ {f:Nat} {fn:Func},find l f = some fn→P.funcs[f]? = some fn∧funOk (E.totOf f) fn = true
 | [],_,_,_,h=>nomatch h
 | (f,fn) :: l,⟨h1,h2⟩,k,u,h=>by
  by_cases hk:f = k
  ·subst hk; rw [find_cons_same] at h; cases h; exact h1
  ·rw [find_cons_other _ _ hk] at h; exact funs_find h2 h
def PuresOK (P:Program) (C:Cfg):List (Nat × PSpec)→Prop
 | []=>True
 | (f,p) :: r=>(PureOK P C f p∧Enterable P f)∧PuresOK P C r
theorem pures_find {P:Program} {C:Cfg}:∀ {l:List (Nat × PSpec)},PuresOK P C l→∀ {f:Nat} {p:PSpec},find l f = some p→PureOK P C f p∧Enterable P f
 | [],_,_,_,h=>nomatch h
 | (f,fn) :: l,⟨h1,h2⟩,k,u,h=>by
  by_cases hk:f = k
  ·subst hk; rw [find_cons_same] at h; cases h; exact h1
  ·rw [find_cons_other _ _ hk] at h; exact pures_find h2 h
def CallsOK (P:Program) (C:Cfg):List (Nat × CSpec)→Prop
 | []=>True
 | (f,p) :: r=>(CallOK P C f p∧p.ok = true∧Enterable P f)∧CallsOK P C r
theorem calls_find {P:Program} {C:Cfg}:∀ {l:List (Nat × CSpec)},CallsOK P C l→∀ {f:Nat} {p:CSpec},find l f = some p→CallOK P C f p∧p.ok = true∧Enterable P f
 | [],_,_,_,h=>nomatch h
 | (f,fn) :: l,⟨h1,h2⟩,k,u,h=>by
  by_cases hk:f = k
  ·subst hk; rw [find_cons_same] at h; cases h; exact h1
  ·rw [find_cons_other _ _ hk] at h; exact calls_find h2 h
def codesOf (P:Program) (f id:Nat):Option LCode :=
 match P.funcs[f]? with
 | some fn=>match fn.body with
  | some c=>find (rangesOf fn.ntmps c) id
  | none=>none
 | none=>none
def FreshesOK (P:Program) (C:Cfg):List (Nat × RSpec)→Prop
 | []=>True
 | (f,p) :: r=>(FreshOK P C f p∧Enterable P f)∧FreshesOK P C r
theorem fresh_find {P:Program} {C:Cfg}:∀ {l:List (Nat × RSpec)},FreshesOK P C l→∀ {f:Nat} {p:RSpec},find l f = some p→FreshOK P C f p∧Enterable P f
 | [],_,_,_,h=>nomatch h
 | (f,fn) :: l,⟨h1,h2⟩,k,u,h=>by
  by_cases hk:f = k
  ·subst hk; rw [find_cons_same] at h; cases h; exact h1
  ·rw [find_cons_other _ _ hk] at h; exact fresh_find h2 h
def InplsOK (P:Program) (C:Cfg):List (Nat × ISpec)→Prop
 | []=>True
 | (f,p) :: r=>(InOK P C f p∧Enterable P f)∧InplsOK P C r
theorem inpl_find {P:Program} {C:Cfg}:∀ {l:List (Nat × ISpec)},InplsOK P C l→∀ {f:Nat} {p:ISpec},find l f = some p→InOK P C f p∧Enterable P f
 | [],_,_,_,h=>nomatch h
 | (f,fn) :: l,⟨h1,h2⟩,k,u,h=>by
  by_cases hk:f = k
  ·subst hk; rw [find_cons_same] at h; cases h; exact h1
  ·rw [find_cons_other _ _ hk] at h; exact inpl_find h2 h
theorem envOK_of {P:Program} {E:Env0} (hcd:∀ f id,Codes.cd f id = codesOf P f id) (h0:P.follows .mixedOrders = true) (h1:CfgOK E.C P) (h2:PuresOK P E.C E.P) (h5:CallsOK P E.C E.S) (h3:FunsOK E P E.F) (h4:LoopsOK E E.L) (h6:FreshesOK P E.C E.R:=by trivial) (h7:InplsOK P E.C E.I:=by trivial):EnvOK P E :=
 ⟨h0,h1,fun _ _ h=>pures_find h2 h,fun _ _ h=>fresh_find h6 h,fun _ _ h=>calls_find h5 h,fun _ _ h=>inpl_find h7 h,fun _ _ h=>funs_find h3 h,fun f fn c hf hb id=>by rw [hcd]; unfold codesOf; rw [(funs_find h3 hf).1]; simp only; rw [hb],fun d base f fn c b l hf hb hm hl=>by
  obtain ⟨fn',c',e1,e2,e3⟩:=findL_in h4 hl
  simp only at e1 e3
  rw [hf] at e1
  cases e1
  rw [hb] at e2
  cases e2
  rw [loopAt_ok hb (funs_find h3 hf).2 hm] at e3
  exact e3⟩
theorem loopOK_of {E:Env0} {d f base:Nat} {c:Code} {l:LSpec} (h0:l.ok = true) (step:Nat→l.head.den→Option (outDen l.outs)) (h1:∀ x o,l.fn x = some o→∃ n,step n x = some o) (h2:∀ x,step 0 x = none)
  (h3:∀ n x,runB E d f base c l (step n) x = step (n + 1) x):LoopOK E d f base c l :=
 ⟨h0,step,h1,h2,fun n x o h=>by rw [h3]; exact h⟩
end Go.V
namespace Go.V
variable [Codes]
section
variable {P:Program} {C:Cfg}
def entOk (fn : Func) : Bool := fn.body.isSome && !(fn.name == "runtime.NumGoroutine")
theorem enter_fun {f:Nat} {fn:Func} (h1:P.funcs[f]? = some fn) (h2:entOk fn = true):Enterable P f:=by
 unfold entOk at h2
 simp only [Bool.and_eq_true,Bool.not_eq_true'] at h2
 refine ⟨fn,h1,h2.2,?_⟩
 cases hb:fn.body with
 | none=>rw [hb] at h2; cases h2.1
 | some c=>rfl
end
end Go.V
namespace Go.V
variable [Codes]
def Ty.ok:(T:Ty)→T.den→Prop
 | .int k,x=>k.min≤x∧x≤k.max
 | .bool,_=>True
 | .str,s=>s.size≤maxLen
 | .sl e,l=>l.length≤maxLen∧∀ x∈l,e.ok x
 | .unit,_=>True
 | .pair a b,x=>a.ok x.1∧b.ok x.2
 | .arr n e,l=>l.length = n∧∀ x∈l,e.ok x
def tysOk:(l:List Ty)→tysDen l→Prop
 | [],_=>True
 | T :: l,x=>T.ok x.1∧tysOk l x.2
def fit (C:Cfg):Ty→UT→Nat→Bool
 | .int k,.int j,_=>decide (k = j)
 | .bool,.bool,_=>true
 | .str,.str,_=>true
 | .sl S,.sl e,_=>fit C S (C.under e) 0 && Nat.beq (C.size e) S.size && !Nat.beq S.size 0
 | .arr n S,.arr m e,_=>Nat.beq n m && fit C S (C.under e) 0 && Nat.beq (C.size e) S.size && !Nat.beq S.size 0
 | .unit,.st [],_=>true
 | .pair A B,.st ((o,t) :: fs),off=>Nat.beq o off && fit C A (C.under t) 0 && Nat.beq (C.size t) A.size && !Nat.beq A.size 0 && fit C B (.st fs) (off + A.size)
 | _,_,_=>false
section
variable {C:Cfg} {P:Program} {H:Type} {enc:TypeId × Value→H} {w:World} {held:Bool}
theorem cellsOf_eq (hC:CfgOK C P) {t n:Nat} (h:C.size t = n) (hn:n ≠ 0):P.cellsOf t = n:=by
 obtain ⟨i,h1,h2,_⟩:=hC.size t (by rw [h]; exact hn)
 unfold Program.cellsOf
 rw [h1]
 simp only [Option.map_some,Option.getD_some]
 rw [h2,h]
theorem mapM_range {α:Type} {f:Nat→Option α} {l:List α}:∀ {n:Nat},(List.range n).mapM f = some l→l.length = n∧∀ i,i < n→f i = l[i]?:=by
 intro n h
 have key:∀ (xs:List Nat) (l:List α),xs.mapM f = some l→l.length = xs.length∧∀ i,i < xs.length→(xs[i]?).bind f = l[i]?:=by
  intro xs
  induction xs with
  | nil=>intro l h; simp at h; subst h; exact ⟨rfl,fun i hi=>absurd hi (by simp)⟩
  | cons x xs ih =>
   intro l h
   rw [List.mapM_cons] at h
   cases hx:f x with
   | none=>simp [hx] at h
   | some y =>
    cases hr:xs.mapM f with
    | none=>simp [hx,hr] at h
    | some ys =>
     simp [hx,hr] at h
     subst h
     obtain ⟨h1,h2⟩:=ih ys hr
     refine ⟨by simp [h1],fun i hi=>?_⟩
     cases i with
     | zero=>simp [hx]
     | succ i=>simpa using h2 i (by simpa using hi)
 obtain ⟨h1,h2⟩:=key _ _ h
 rw [List.length_range] at h1
 refine ⟨h1,fun i hi=>?_⟩
 have:=h2 i (by simpa using hi)
 rwa [List.getElem?_range hi] at this
theorem elems_of {α:Type} {R:α→List Value→Prop} {ok:α→Prop} {sz:Nat}:∀ (n:Nat) (cs:List Value),cs.length = n * sz→(∀ i,i < n→∃ x,R x ((cs.drop (i * sz)).take sz)∧ok x) →
  ∃ l:List α,l.length = n∧Elems R l cs∧∀ x∈l,ok x
 | 0,cs,hl,_=>⟨[],rfl,List.eq_nil_of_length_eq_zero (by simpa using hl),fun _ h=>nomatch h⟩
 | n + 1,cs,hl,h=>by
  obtain ⟨x,h1,h2⟩:=h 0 (by omega)
  obtain ⟨l,k1,k2,k3⟩:=elems_of (R:=R) (ok:=ok) (sz:=sz) n (cs.drop sz) (by rw [List.length_drop,hl,Nat.succ_mul]; omega) (fun i hi=>by
   obtain ⟨y,q1,q2⟩:=h (i + 1) (by omega)
   refine ⟨y,?_,q2⟩
   rw [List.drop_drop]
   have:sz + i * sz = (i + 1) * sz:=by rw [Nat.succ_mul]; omega
   rw [this]
   exact q1)
  refine ⟨x :: l,by simp [k1],⟨cs.take sz,cs.drop sz,(List.take_append_drop _ _).symm,by simpa using h1,k2⟩,fun y hy=>?_⟩
  rcases List.mem_cons.1 hy with rfl | hy
  ·exact h2
  ·exact k3 y hy
def allFz (w:World):Nat→Nat→Option Value:=fun b o=>w.cell? ⟨b,o,none⟩
theorem cells_at {a:Addr} {n:Nat} {cs:List Value} (h:w.cells? 0 a n = some cs):cs.length = n∧∀ j,j < n→w.cell? (a.add j) = cs[j]?:=by
 unfold World.cells? at h
 rw [if_pos (Nat.zero_le _)] at h
 exact mapM_range h
theorem spot_of_cell {a:Addr} {v:Value} (h:w.cell? a = some v):a.spot = none:=by
 unfold World.cell? at h
 split at h
 ·split at h
  ·cases h
  ·rename_i hs; cases hsp:a.spot with
   | none=>rfl
   | some _=>rw [hsp] at hs; simp at hs
 ·cases h
mutual
theorem fit_cr (hC:CfgOK C P):∀ (T:Ty) (t:TypeId) (fuel:Nat) (cs:List Value) (x:DataW H × List MemPlace),fit C T (C.under t) 0 = true→(T.size = 0→cs = [])→(T.size ≠ 0→C.size t = T.size) →
  DataW.trod enc P w 0 (fun _=>true) held fuel t cs = some x→∃ y,CR (allFz w) T y cs∧T.ok y
 | .int k,t,fuel,cs,x,hf,_,_,h=>by
  cases hu:C.under t <;> rw [hu] at hf <;> simp only [fit,decide_eq_true_eq,Bool.false_eq_true] at hf
  subst hf
  obtain ⟨n,rfl,rfl,hw⟩:=DataW.trod_int (hC.int _ _ hu) h
  simp only [Lit.wf,Bool.and_eq_true,decide_eq_true_eq] at hw
  exact ⟨n,rfl,hw⟩
 | .bool,t,fuel,cs,x,hf,_,_,h=>by
  cases hu:C.under t <;> rw [hu] at hf <;> simp only [fit,Bool.false_eq_true] at hf
  obtain ⟨n,rfl,rfl⟩:=DataW.trod_bool (hC.bool _ hu) h
  exact ⟨n,rfl,trivial⟩
 | .str,t,fuel,cs,x,hf,_,_,h=>by
  cases hu:C.under t <;> rw [hu] at hf <;> simp only [fit,Bool.false_eq_true] at hf
  obtain ⟨n,rfl,rfl,hw⟩:=DataW.trod_string (hC.str _ hu) h
  exact ⟨n,rfl,hw⟩
 | .sl S,t,fuel,cs,x,hf,_,_,h=>by
  cases hu:C.under t <;> rw [hu] at hf <;> simp only [fit,Bool.and_eq_true,Bool.not_eq_true',Bool.false_eq_true] at hf
  rename_i e
  obtain ⟨⟨f1,f3⟩,f4⟩:=hf
  have hsz:S.size ≠ 0:=fun e=>by rw [e] at f4; cases f4
  have hce:=Nat.eq_of_beq_eq_true f3
  have hcells:=cellsOf_eq hC hce hsz
  rcases DataW.trod_slice (hC.sl _ _ hu) h with ⟨rfl,_⟩ | ⟨a,len,cap,elems,rest,n,rfl,rfl,_,_,hlc,hcm,hel,he,hrest,_⟩
  ·exact ⟨[],⟨_,rfl,.inl ⟨rfl,_,rfl⟩⟩,Nat.zero_le _,fun _ h=>nomatch h⟩
  ·rw [hcells] at he
   have one:∀ i,i < len→∃ cs,w.cells? 0 (a.add (i * S.size)) S.size = some cs∧∃ y,DataW.trod enc P w 0 (fun _=>true) held n e cs = some y:=by
    intro i hi
    have:=he i hi
    rw [List.getElem?_eq_getElem (by omega)] at this
    obtain ⟨cs,h1,h2⟩:=Option.bind_eq_some_iff.1 this
    exact ⟨cs,h1,_,h2⟩
   by_cases hc0:cap = 0
   ·subst hc0
    obtain rfl:len = 0:=by omega
    exact ⟨[],⟨_,rfl,.inl ⟨rfl,_,rfl⟩⟩,Nat.zero_le _,fun _ h=>nomatch h⟩
   have hspot:a.spot = none:=by
    cases len with
    | zero =>
     obtain ⟨q1,q2⟩:=hrest rfl
     have:=q2 0 (by omega)
     rw [hcells,List.getElem?_eq_getElem (by omega)] at this
     obtain ⟨cs,h1,_⟩:=Option.bind_eq_some_iff.1 this
     obtain ⟨h2,h3⟩:=cells_at h1
     have h4:=h3 0 (by omega)
     rw [List.getElem?_eq_getElem (by omega)] at h4
     have:=spot_of_cell h4
     simpa [Addr.add] using this
    | succ len =>
     obtain ⟨cs,h1,_⟩:=one 0 (by omega)
     obtain ⟨h2,h3⟩:=cells_at h1
     have h4:=h3 0 (by omega)
     rw [List.getElem?_eq_getElem (by omega)] at h4
     have:=spot_of_cell h4
     simpa [Addr.add] using this
   obtain ⟨blk,off,spot⟩:=a
   simp only at hspot
   subst hspot
   let all:List Value:=(List.range len).flatMap fun i=>(w.cells? 0 ((⟨blk,off,none⟩:Addr).add (i * S.size)) S.size).getD []
   have key:∀ m,m≤len→∃ l:List S.den,∃ cs,l.length = m∧Elems (CR (allFz w) S) l cs∧cs.length = m * S.size∧Fz (allFz w) blk off cs∧∀ y∈l,S.ok y:=by
    intro m
    induction m with
    | zero=>exact fun _=>⟨[],[],rfl,rfl,by simp,fun j v e=>by simp at e,fun _ h=>nomatch h⟩
    | succ m ih =>
     intro hm
     obtain ⟨l,cs,k1,k2,k3,k4,k5⟩:=ih (by omega)
     obtain ⟨cs1,h1,y1,h2⟩:=one m (by omega)
     obtain ⟨q1,q2⟩:=cells_at h1
     obtain ⟨y,q3,q4⟩:=fit_cr hC S e n cs1 y1 f1 (fun e=>absurd e hsz) (fun _=>hce) h2
     refine ⟨l++[y],cs++cs1,by simp [k1],?_,by simp [k3,q1,Nat.succ_mul],?_,?_⟩
     ·exact Elems.append k2 ⟨cs1,[],by simp,q3,rfl⟩
     ·intro j v e
      by_cases hj:j < cs.length
      ·rw [List.getElem?_append_left hj] at e; exact k4 j v e
      ·rw [List.getElem?_append_right (by omega)] at e
       have hj2:j - cs.length < S.size:=by
        have:=(List.getElem?_eq_some_iff.1 e).1
        omega
       have:=q2 _ hj2
       rw [e] at this
       show w.cell? ⟨blk,off + j,none⟩ = some v
       rw [← this]
       rw [add_lit',add_lit']
       congr 2
       omega
     ·intro z hz
      rcases List.mem_append.1 hz with hz | hz
      ·exact k5 z hz
      ·simp at hz; subst hz; exact q4
   obtain ⟨l,cs,k1,k2,k3,k4,k5⟩:=key len (Nat.le_refl _)
   refine ⟨l,⟨_,rfl,.inr ⟨blk,off,cap,cs,by rw [k1],by rw [k1]; exact hlc,k2,k4⟩⟩,?_,k5⟩
   rw [k1]; omega
 | .arr n S,t,fuel,cs,x,hf,hz0,hsize,h=>by
  cases hu:C.under t <;> rw [hu] at hf <;> simp only [fit,Bool.and_eq_true,Bool.not_eq_true',Bool.false_eq_true] at hf
  rename_i m e
  obtain ⟨⟨⟨f0,f1⟩,f3⟩,f4⟩:=hf
  have hnm:=Nat.eq_of_beq_eq_true f0
  subst hnm
  have hsz:S.size ≠ 0:=fun e=>by rw [e] at f4; cases f4
  have hce:=Nat.eq_of_beq_eq_true f3
  have hcells:=cellsOf_eq hC hce hsz
  obtain ⟨xs,m,_,rfl,hl,hxs,he⟩:=DataW.trod_array (hC.arr _ _ _ hu) h
  rw [hcells] at he
  have hlen:cs.length = n * S.size:=by
   by_cases hz:n * S.size = 0
   ·have:n = 0:=by
     rcases Nat.mul_eq_zero.1 hz with h | h
     ·exact h
     ·exact absurd h hsz
    subst this
    rw [hz0 (by simp [Ty.size])]
    simp
   ·rw [hl]
    exact cellsOf_eq hC (hsize (by simpa [Ty.size] using hz)) (by simpa [Ty.size] using hz)
  obtain ⟨l,k1,k2,k3⟩:=elems_of (R:=CR (allFz w) S) (ok:=S.ok) n cs hlen (fun i hi=>by
   have:=he i hi
   rw [List.getElem?_eq_getElem (by omega)] at this
   exact fit_cr hC S e m _ _ f1 (fun e=>absurd e hsz) (fun _=>hce) this)
  exact ⟨l,⟨k1,k2⟩,k1,k3⟩
 | .unit,t,fuel,cs,x,hf,hz,_,h=>⟨(),hz rfl,trivial⟩
 | .pair A B,t,fuel,cs,x,hf,_,hsize,h=>by
  cases hu:C.under t <;> rw [hu] at hf <;> try (simp only [fit,Bool.false_eq_true] at hf; done)
  rename_i fs
  obtain ⟨fields,hd,hfs⟩:=hC.st _ _ hu
  obtain ⟨xs,m,_,rfl,hl,hxs,he⟩:=DataW.trod_struct hd h
  have hAB:(Ty.pair A B).size ≠ 0:=by
   cases fs with
   | nil=>simp [fit] at hf
   | cons f fs =>
    simp only [fit,Bool.and_eq_true,Bool.not_eq_true'] at hf
    intro e
    simp only [Ty.size] at e
    have:A.size = 0:=by omega
    rw [this] at hf
    exact absurd hf.1.2 (by decide)
  have hlen:cs.length = (Ty.pair A B).size:=by
   rw [hl]; exact cellsOf_eq hC (hsize hAB) hAB
  obtain ⟨y,h1,h2⟩:=fit_fs hC (.pair A B) fields.toList 0 m cs xs 0 (by rw [hfs]; exact hf) (by omega) (fun i f hf=>by
   have:=he i f (by simpa using hf)
   simpa using this) (by rw [hxs]; simp)
  exact ⟨y,by simpa using h1,h2⟩
theorem fit_fs (hC:CfgOK C P):∀ (T:Ty) (fields:List Field) (off fuel:Nat) (cs:List Value) (xs:List (DataW H × List MemPlace)) (k:Nat),fit C T (.st (fields.map fun f=>(f.offset,f.type))) off = true→cs.length = off + T.size →
  (∀ i f,fields[i]? = some f→DataW.trod enc P w 0 (fun _=>true) held fuel f.type ((cs.drop f.offset).take (P.cellsOf f.type)) = xs[k + i]?)→k + fields.length = xs.length →
  ∃ y,CR (allFz w) T y (cs.drop off)∧T.ok y
 | .unit,fields,off,fuel,cs,xs,k,hf,hl,_,_=>by
  refine ⟨(),?_,trivial⟩
  show cs.drop off = []
  rw [List.drop_eq_nil_iff]
  simp only [Ty.size] at hl
  omega
 | .pair A B,[],off,fuel,cs,xs,k,hf,hl,_,_=>by simp [fit] at hf
 | .pair A B,f :: fields,off,fuel,cs,xs,k,hf,hl,he,hk=>by
  simp only [List.map_cons,fit,Bool.and_eq_true,Bool.not_eq_true'] at hf
  obtain ⟨⟨⟨⟨f1,f2⟩,f3⟩,f4⟩,f5⟩:=hf
  have hoff:=Nat.eq_of_beq_eq_true f1
  have hsz:A.size ≠ 0:=fun e=>by rw [e] at f4; cases f4
  have hce:=Nat.eq_of_beq_eq_true f3
  have hcells:=cellsOf_eq hC hce hsz
  have h0:=he 0 f rfl
  simp only [List.length_cons] at hk
  rw [Nat.add_zero,List.getElem?_eq_getElem (by omega),hoff,hcells] at h0
  simp only [Ty.size] at hl
  obtain ⟨a,h1,h2⟩:=fit_cr hC A f.type fuel _ _ f2 (fun e=>absurd e hsz) (fun _=>hce) h0
  obtain ⟨b,h3,h4⟩:=fit_fs hC B fields (off + A.size) fuel cs xs (k + 1) f5 (by omega) (fun i g hg=>by
   have:=he (i + 1) g (by simpa using hg)
   rw [this]; congr 1; omega) (by omega)
  refine ⟨(a,b),⟨(cs.drop off).take A.size,cs.drop (off + A.size),?_,h1,h3⟩,h2,h4⟩
  rw [← List.drop_drop,List.take_append_drop]
 | .int _,fields,off,_,_,_,_,hf,_,_,_=>by cases fields <;> simp [fit] at hf
 | .bool,fields,off,_,_,_,_,hf,_,_,_=>by cases fields <;> simp [fit] at hf
 | .str,fields,off,_,_,_,_,hf,_,_,_=>by cases fields <;> simp [fit] at hf
 | .sl _,fields,off,_,_,_,_,hf,_,_,_=>by cases fields <;> simp [fit] at hf
 | .arr _ _,fields,off,_,_,_,_,hf,_,_,_=>by cases fields <;> simp [fit] at hf
end
def fitAll (C:Cfg):List TypeId→List Ty→Bool
 | [],[]=>true
 | t :: ts,T :: Ts=>fit C T (C.under t) 0 && (Nat.beq (C.size t) T.size && !Nat.beq T.size 0) && fitAll C ts Ts
 | _,_=>false
theorem fit_agg (hC:CfgOK C P) {T:Ty} {t:TypeId} (hf:fit C T (C.under t) 0 = true) :
  (T.isAgg = true∧((∃ fs,P.underlying t = some (.struct fs)) ∨ ∃ n e,P.underlying t = some (.array n e))) ∨
  (T.isAgg = false∧(∀ fs,P.underlying t ≠ some (.struct fs))∧(∀ n e,P.underlying t ≠ some (.array n e))):=by
 cases T <;> cases hu:C.under t <;> rw [hu] at hf <;> try (simp only [fit,Bool.false_eq_true] at hf; done)
 case int.int=>exact .inr ⟨rfl,by rw [hC.int _ _ hu]; simp,by rw [hC.int _ _ hu]; simp⟩
 case bool.bool=>exact .inr ⟨rfl,by rw [hC.bool _ hu]; simp,by rw [hC.bool _ hu]; simp⟩
 case str.str=>exact .inr ⟨rfl,by rw [hC.str _ hu]; simp,by rw [hC.str _ hu]; simp⟩
 case sl.sl=>exact .inr ⟨rfl,by rw [hC.sl _ _ hu]; simp,by rw [hC.sl _ _ hu]; simp⟩
 case arr.arr=>exact .inl ⟨rfl,.inr ⟨_,_,hC.arr _ _ _ hu⟩⟩
 case unit.st=>obtain ⟨f,h,_⟩:=hC.st _ _ hu; exact .inl ⟨rfl,.inl ⟨_,h⟩⟩
 case pair.st=>obtain ⟨f,h,_⟩:=hC.st _ _ hu; exact .inl ⟨rfl,.inl ⟨_,h⟩⟩
theorem arg_tv (hC:CfgOK C P) {T:Ty} {t:TypeId} {v:Value} {d:DataW H} {p:List MemPlace} (hf:fit C T (C.under t) 0 = true) (hz:C.size t = T.size) (hn:T.size ≠ 0) {base:Nat}
  (hv:Value.okWide P w .any base t v) (h:DataW.Trod enc P w 0 (fun _=>true) held t v d p):∃ x,TV (allFz w) T x v∧T.ok x:=by
 obtain ⟨fuel,h⟩:=h
 unfold Value.okWide at hv
 rcases fit_agg hC hf with ⟨ha,hu⟩ | ⟨ha,hu1,hu2⟩
 ·have hv':∃ cs,v = .agg cs∧cs.size = P.cellsOf t∧Row.okWide P w .any base t cs:=by
   rcases hu with ⟨fs,hu⟩ | ⟨n,e,hu⟩ <;> rw [hu] at hv <;> exact hv
  obtain ⟨cs,rfl,_⟩:=hv'
  obtain ⟨y,h1,h2⟩:=fit_cr hC T t fuel _ _ hf (fun e=>absurd e hn) (fun _=>hz) h
  exact ⟨y,⟨cs,h1,by rw [ha]; rfl⟩,h2⟩
 ·have hv':Cell.okWide P w .any base t v:=by
   cases hu:P.underlying t with
   | none=>rw [hu] at hv; exact hv
   | some D =>
    rw [hu] at hv
    cases D <;> first | exact hv | exact absurd hu (hu1 _) | exact absurd hu (hu2 _ _)
  have hcells:v.cells = #[v]:=by
   cases v <;> first | rfl | skip
   rename_i cs
   exfalso
   unfold Cell.okWide at hv'
   split at hv' <;> first
    | (rename_i e; cases e; done)
    | skip
   unfold Cell.ok at hv'
   split at hv' <;> first
    | (rename_i e; cases e; done)
    | (cases hv'; done)
    | skip
  rw [hcells] at h
  obtain ⟨y,h1,h2⟩:=fit_cr hC T t fuel _ _ hf (fun e=>absurd e hn) (fun _=>hz) h
  exact ⟨y,⟨#[v],h1,by rw [ha]; rfl⟩,h2⟩
theorem args_tvs (hC:CfgOK C P) {base:Nat}:∀ {ts:List TypeId} {Ts:List Ty} {vs:List Value} {ds:List (DataW H)} {p:List MemPlace},fitAll C ts Ts = true →
  (∀ (j:Nat) t v,ts[j]? = some t→vs[j]? = some v→Value.okWide P w .any base t v)→DataW.TrodAll enc P w 0 (fun _=>true) held ts vs ds p→∃ x,TVs (allFz w) Ts x vs∧tysOk Ts x
 | [],[],[],[],p,_,_,_=>⟨(),rfl,trivial⟩
 | t :: ts,T :: Ts,v :: vs,d :: ds,p,hf,hv,⟨p1,p2,h1,h2,_⟩=>by
  simp only [fitAll,Bool.and_eq_true,Bool.not_eq_true'] at hf
  have hn:T.size ≠ 0:=fun e=>by have:=hf.1.2.2; rw [e] at this; cases this
  obtain ⟨x,k1,k2⟩:=arg_tv hC hf.1.1 (Nat.eq_of_beq_eq_true hf.1.2.1) hn (hv 0 t v rfl rfl) h1
  obtain ⟨y,k3,k4⟩:=args_tvs hC hf.2 (fun j t v e1 e2=>hv (j + 1) t v (by simpa using e1) (by simpa using e2)) h2
  exact ⟨(x,y),⟨k1,k3⟩,k2,k4⟩
 | [],_ :: _,_,_,_,hf,_,_=>by simp [fitAll] at hf
 | _ :: _,[],_,_,_,hf,_,_=>by simp [fitAll] at hf
 | [],[],_ :: _,_,_,_,_,h=>h.elim
 | [],[],[],_ :: _,_,_,_,h=>h.elim
 | _ :: _,_ :: _,[],_,_,_,_,h=>h.elim
 | _ :: _,_ :: _,_ :: _,[],_,_,_,h=>h.elim
theorem keptBut_same {W W':World} (ho:W'.os = W.os) (hp:W'.output = W.output) (hb:∀ b,b < W.heap.size→W'.heap[b]? = W.heap[b]?) (may:MemPlace→Prop):W.keptBut W' may:=by
 refine ⟨ho,hp,fun i hi=>?_⟩
 rw [hb i hi]
 cases W.heap[i]? with
 | none=>rfl
 | some o=>cases o <;> first | rfl | exact ⟨rfl,rfl,rfl,fun _ _=>rfl⟩ | exact .inr ⟨rfl,rfl⟩
theorem trodAll_same (hl:laidOutB P = true) (hm:mapsRowed P = true) (hsz:∀ t e,t < P.types.size→P.underlying t = some (.slice e)→0 < P.cellsOf e) {W W':World} (hb:∀ b,b < W.heap.size→W'.heap[b]? = W.heap[b]?) :
  ∀ {ts:List TypeId} {vs:List Value} {ds:List (DataW H)} {p:List MemPlace},(∀ t∈ts,t < P.types.size)→DataW.TrodAll enc P W 0 (fun _=>true) true ts vs ds p→DataW.TrodAll enc P W' 0 (fun b=>decide (b < W.heap.size)) true ts vs ds p
 | [],[],[],p,_,h=>h
 | t :: ts,v :: vs,d :: ds,p,ht,⟨p1,p2,⟨n,h1⟩,h2,e⟩=>by
  have hlt:=DataW.trod_lt n _ _ _ h1
  refine ⟨p1,p2,⟨n,DataW.trod_stays (kids_rows hl hm) (fun a b=>hsz _ _ a b) (fun h=>by cases h) (ht t (by simp)) h1 (fun q hq=>?_) (fun q hq=>by simpa using hlt q hq)⟩,trodAll_same hl hm hsz hb (fun t h=>ht t (by simp [h])) h2,e⟩
  have:=hlt q hq
  cases q with
  | cell b off=>exact World.cell?_of_block (a:=⟨b,off,none⟩) (hb b this)
  | map b=>exact hb b this
 | [],[],_ :: _,_,_,h=>h.elim
 | [],_ :: _,_,_,_,h=>h.elim
 | _ :: _,[],_,_,_,h=>h.elim
 | _ :: _,_ :: _,[],_,_,h=>h.elim
theorem law_contract (hC : CfgOK C P) (hl : laidOutB P = true) (hm : mapsRowed P = true) (hsz : ∀ t e, t < P.types.size → P.underlying t = some (.slice e) → 0 < P.cellsOf e)
    {f : FuncId} {fn : Func} {Ts : List Ty} {F : tysDen Ts → Option (tysDen [.bool])} (hp : PureOK P C f { args := Ts, res := [.bool], fn := F }) (hlaw : ∀ x, tysOk Ts x → F x = some (true, ()))
    (hfit : fitAll C fn.params.toList Ts = true) (hpt : ∀ t ∈ fn.params.toList, t < P.types.size) {tb : TypeId} (hrt : fn.resultTypes = #[tb]) (htb : P.underlying tb = some .bool)
    {s : ChangeSpec} (hvars : s.vars = []) {apart fresh handsOn : Bool} {W : World} {base : Nat} {args : Array Value} {ds gs : List (DataW H)} {before : List MemPlace}
    (hs : s.fn H (ds ++ []) = { results := [.lit (.bool true)], args := ds, vars := [] })
    (hval : ∀ (j : Nat) t v, fn.params[j]? = some t → args[j]? = some v → Value.okWide P W .any base t v) (hW : DataW.Whole enc P fn.params.toList s.vars apart W args.toList ds gs before) (hG : GlobOK C (allFz W)) :
    Calls P f args W fun e W' => ∃ v, e = .returned v ∧ s.post enc P fn apart fresh handsOn false W args v W' := by
  have hW0 := hW
  obtain ⟨p, q, hA, hV, rfl, _, _⟩ := hW0
  rw [hvars] at hV
  obtain ⟨rfl, rfl⟩ : gs = [] ∧ q = [] := by
    cases gs with
    | nil => exact ⟨rfl, hV⟩
    | cons g r => exact hV.elim
  obtain ⟨x, h1, h2⟩ := args_tvs hC hfit (fun j t v e1 e2 => hval j t v (by simpa using e1) (by simpa using e2)) hA
  have hx := hlaw x h2
  refine (hp (allFz W) W args x (true, ()) hG (fun b o v e => e) h1 hx).mono ?_
  rintro e W' ⟨cs, fz', rfl, h3, _, ht⟩
  have hb : ∀ b, b < W.heap.size → W'.heap[b]? = W.heap[b]? := fun b hb => ht.block b hb (not_owned _ _)
  have hv : resVal cs = .bool true := by
    match cs, h3 with
    | [c], ⟨⟨arr, k1, k2⟩, _⟩ =>
      have k1' : arr.toList = [Value.bool true] := k1
      show c = _
      rw [k2]
      show arr.getD 0 undef = _
      rw [Array.getD_eq_getD_getElem?, ← Array.getElem?_toList, k1']
      rfl
    | _ :: _ :: _, ⟨_, h⟩ => cases h
    | [], h => exact h.elim
  rw [hv]
  refine ⟨_, rfl, ds, [], p ++ [], [], p, [], hW, ?_, ?_, ?_, keptBut_same ht.os ht.output hb _, fun h => by cases h⟩
  · rw [hs, hrt]
    exact ChangeShapes.trodAll_mk1 (RowKit.shut_bool htb true)
  · rw [hs]
    exact trodAll_same hl hm hsz hb hpt hA
  · rw [hs, hvars]
    rfl
end
end Go.V
namespace Go.V
abbrev Vx:=Int × Int × Unit
abbrev Ed:=Int × Int × Int × Bool × Int × Int × Unit
abbrev Gr:=List Vx × List Ed × List Int × Unit
abbrev En:=Int × ByteArray × Unit
abbrev Nm:=Int × List Int × Unit
abbrev tI:Ty:=.int .i64
abbrev tV:Ty:=.pair tI (.pair tI .unit)
abbrev tE:Ty:=.pair tI (.pair tI (.pair tI (.pair .bool (.pair tI (.pair tI .unit)))))
abbrev tN:Ty:=.pair tI (.pair .str .unit)
abbrev tM:Ty:=.pair tI (.pair (.sl tI) .unit)
abbrev tG:Ty:=.pair (.sl tV) (.pair (.sl tE) (.pair (.sl tI) .unit))
abbrev TI:Sh:=.ty tI
abbrev cP (n:Nat):Sh:=.cst (.ptr n 0 [])
theorem dT {p:Prop} [Decidable p] (h:p):decide p = true:=decide_eq_true h
theorem dF {p:Prop} [Decidable p] (h:¬ p):decide p = false:=decide_eq_false h
end Go.V
namespace Go.V
noncomputable instance:Codes:=⟨codesOf Go.Proofs.Tryz.prog⟩
theorem cds (f id:Nat):Codes.cd f id = codesOf Go.Proofs.Tryz.prog f id:=rfl
def roundTable:List Int:=[1116352408,1899447441,3049323471,3921009573,961987163,1508970993,2453635748,2870763221,3624381080,310598401,607225278,1426881987,1925078388,2162078206,2614888103,3248222580,3835390401,4022224774,264347078,604807628,770255983,1249150122,1555081692,1996064986,2554220882,2821834349,2952996808,3210313671,3336571891,3584528711,113926993,338241895,666307205,773529912,1294757372,1396182291,1695183700,1986661051,2177026350,2456956037,2730485921,2820302411,3259730800,3345764771,3516065817,3600352804,4094571909,275423344,430227734,506948616,659060556,883997877,958139571,1322822218,1537002063,1747873779,1955562222,2024104815,2227730452,2361852424,2428436474,2756734187,3204031479,3329325298]
def cfgZ:List (Option (List ZG)):=[none,some [.nilf],some [.val tI],some [.val tI],some [.val .bool],some [.val (.int .u8)],some [.val (.int .u8)],some [.val tI,.val tI,.val .bool,.val (.int .u8)],some [.val tI,.val tI,.val .bool,.val (.int .u8)],some [.val .str],some [.val .str],some [.val .str],some [.val (.int .u64)],some [.val .str,.val (.int .u64)],some [.val .str,.val (.int .u64)],some [.nilp],some [.nilp],some [.nilp],some [.nilp],some [.nilp],some [.nili],some [.val (.int .i32)],some [.nils],some [.nils],some [.nils],some [.nils,.nils,.nils],some [.nils,.nils,.nils],some [.nils],some [.nils],some [.nilf],some [.val tI,.val .str],some [.val tI,.val .str],some [.nils],some [.nilf],some [.nilf],some [.nils],some [.val tI],none,some [.nilf],none,some [.nilf],some [.nilf],some [.nilf],some [.nilf],some [.nilf],some [.nils],none,some [.nilf],some [.nilf],some [.nils],some [.val tI,.val tI],some [.val tI,.val tI],none,some [.nilf],none,some [.nilf],some [.nilf],some [.nilf],some [.nilf],some [.nils],some [.nils],some [.val tI,.nils],some [.val tI,.nils],some [.nilf],some [.nilf],some [.nils],some [.val tI,.val tI,.nils,.nils,.nils],some [.val tI,.val tI,.nils,.nils,.nils],none,some [.nilf],some [.nilf],some [.nilf],some [.val tI,.val tI,.val tI,.val .bool,.val tI,.val tI],some [.val tI,.val tI,.val tI,.val .bool,.val tI,.val tI],some [.nilf],some [.nils],none,some [.nilf],some [.nilf],some [.nilf],some [.nilf],some [.nilf],some [.nilf],some [.nilf],some [.val (.arr 6 tI)],some [.val tI,.val tI,.val tI,.val tI,.val tI,.val tI,.val .bool,.val tI,.val tI,.val tI,.val tI,.nils,.nils],some [.val tI,.val tI,.val tI,.val tI,.val tI,.val tI,.val .bool,.val tI,.val tI,.val tI,.val tI,.nils,.nils],some [.nilf],some [.nilf],some [.nils],some [.nilf],some [.nilf],some [.val (.arr 5 tI)],some [.nilf],some [.nilf],some [.nilf],some [.nilf],some [.nilf],some [.nilf],none,some [.nilf],some [.nilf],some [.nilf],none,none,some [.nilf],some [.nilp],some [.nilf],some [.val .str,.val tI],some [.val .str,.val tI],some [.val .str,.val tI],some [.val .str,.val tI],some [.nilf],some [.nilf],some [.nilf],some [.nilf],some [.nilf],some [.nilf],some [.nilf],none,some [.nilf],some [.nilf],some [.nilf],some [.nilf],some [.nilf],some [.nilf],some [.nilf],some [.nilf],some [.nilf],some [.nilf],some [.nilp],some [.nilf],some [.nilf],none,some [.nilf],some [.nilf],some [.nilp],some [.nilf],some [.nilf],some [.nils,.nils,.nils],some [.nils,.nils,.nils],some [.nilf],some [.nilf],none,some [.nilf],some [.nilf],some [.nilf],some [.nilf],some [.nilf],some [.nilf],some [.nilf],some [.nilf],some [.nilf],some [.nilf],some [.nilf],none,some [.nilp],none,some [.nilf],some [.nilf],some [.nilf],some [.nilf],some [.nilf],some [.nilf],some [.val (.int .u64)],some [.nilf],some [.nilf],none,some [.nilf],some [.nilf],some [.nilf],some [.nilf],some [.nilf],some [.val (.arr 128 .str)],some [.val (.arr 128 .str)],some [.nilf],some [.nilf],some [.nilf],some [.val (.int .u32)],some [.nils],some [.nilf],some [.nilf],some [.nilf],some [.nilf],some [.nilf],none,some [.nilf],some [.nilf],some [.nilf],some [.nilf],some [.nilp],some [.nilf],none,some [.nilf],some [.nilp],some [.nilf],some [.nilf],some [.nilf],some [.nilp],some [.nilp,.nils],some [.nilp,.nils],some [.nilf],some [.nili],some [.nili],none,some [.nilf],some [.val (.int .u64)],some [.nilf],some [.nilf],some [.val tI],none,some [.nilf],some [.nilf],some [.nilf],some [.nilf],some [.nilf],some [.nilf],some [.nilf],some [.nilf],some [.nilf],some [.nilf],some [.nilf],some [.nilf],some [.nilf],some [.nilf],some [.nilf],some [.nilf],some [.nilf],some [.nilf],some [.nilf],some [.nilf],some [.nilf],some [.nilf],some [.nilp],some [.nilf],some [.nilf],some [.nilf],some [.nilf],some [.nilf],some [.nilf],some [.val (.int .u64)],some [.nilf],some [.nilf],some [.nilf],some [.nilf],some [.val (.arr 8 (.int .u32))],some [.val (.arr 8 (.int .u32))],some [.nilf],some [.nilf],some [.nilf],some [.nilf],some [.nilf],some [.nilf],none,some [.nilf],some [.nilf],some [.nilf],some [.nilp],none,some [.nilf],some [.nilf],some [.nilp],some [.val (.arr 64 (.int .u32))],some [.nilf],some [.nilf],some [.val (.arr 32 (.int .u8))],some [.nilf],some [.nilf],some [.nilf],some [.nilp,.nilp,.nilp,.val .str],some [.nilp,.nilp,.nilp,.val .str],some [],some [],some [],some [.val (.int .u8)],some [.val (.int .u8)],some [.nilf],some [.val (.int .i32)],some [.val (.int .i32)],some [.val (.int .u64),.val (.int .u64),.val (.int .u32),.val (.int .u8),.val (.int .u8),.val (.int .u8),.val (.int .u8),.nilf,.nilp,.val (.int .i32),.val (.int .i32)],some [.val (.int .u64),.val (.int .u64),.val (.int .u32),.val (.int .u8),.val (.int .u8),.val (.int .u8),.val (.int .u8),.nilf,.nilp,.val (.int .i32),.val (.int .i32)]]
def cfg:Cfg where
 unders:=[.tup,.fn,.int .i64,.int .i64,.bool,.int .u8,.int .u8,.st [(0,2),(1,3),(2,4),(3,6)],.st [(0,2),(1,3),(2,4),(3,6)],.str,.str,.str,.int .u64,.st [(0,9),(1,12)],.st [(0,9),(1,12)],.ptr 270,.ptr 273,.ptr 280,.st [(0,17)],.st [(0,17)],.iface,.int .i32,.sl 51,.sl 73,.sl 3,.st [(0,22),(1,23),(2,24)],.st [(0,22),(1,23),(2,24)],.sl 92,.sl 31,.fn,.st [(0,3),(1,9)],.st [(0,3),(1,9)],.sl 9,.fn,.fn,.sl 26,.int .i64,.tup,.fn,.tup,.fn,.fn,.fn,.fn,.fn,.sl 28,.tup,.fn,.fn,.sl 5,.st [(0,3),(1,3)],.st [(0,3),(1,3)],.tup,.fn,.tup,.fn,.fn,.fn,.fn,.sl 62,.sl 84,.st [(0,3),(1,24)],.st [(0,3),(1,24)],.fn,.fn,.sl 59,.st [(0,51),(2,24),(3,23),(4,59)],.st [(0,51),(2,24),(3,23),(4,59)],.tup,.fn,.fn,.fn,.st [(0,3),(1,3),(2,3),(3,4),(4,3),(5,3)],.st [(0,3),(1,3),(2,3),(3,4),(4,3),(5,3)],.fn,.sl 86,.tup,.fn,.fn,.fn,.fn,.fn,.fn,.fn,.arr 6 3,.st [(0,3),(1,51),(3,73),(9,3),(10,3),(11,24),(12,24)],.st [(0,3),(1,51),(3,73),(9,3),(10,3),(11,24),(12,24)],.fn,.fn,.sl 4,.fn,.fn,.arr 5 3,.fn,.fn,.fn,.fn,.fn,.fn,.tup,.fn,.fn,.fn,.map 3 73,.tup,.fn,.ptr 111,.fn,.st [(0,9),(1,3)],.st [(0,9),(1,3)],.st [(0,109)],.st [(0,109)],.fn,.fn,.fn,.fn,.fn,.fn,.fn,.tup,.fn,.fn,.fn,.fn,.fn,.fn,.fn,.fn,.fn,.fn,.ptr 174,.fn,.fn,.tup,.fn,.fn,.ptr 140,.fn,.fn,.st [(0,26)],.st [(0,26)],.fn,.fn,.map 3 142,.fn,.fn,.fn,.fn,.fn,.fn,.fn,.fn,.fn,.fn,.fn,.tup,.ptr 109,.tup,.fn,.fn,.fn,.fn,.fn,.fn,.int .u64,.fn,.fn,.tup,.fn,.fn,.fn,.fn,.fn,.arr 128 9,.arr 128 9,.fn,.fn,.fn,.int .u32,.sl 178,.fn,.fn,.fn,.fn,.fn,.tup,.fn,.fn,.fn,.fn,.ptr 73,.fn,.map 3 194,.fn,.ptr 3,.fn,.fn,.fn,.ptr 200,.st [(0,198),(1,49)],.st [(0,198),(1,49)],.fn,.iface,.iface,.tup,.fn,.int .u64,.fn,.fn,.int .i64,.tup,.fn,.fn,.fn,.fn,.fn,.fn,.fn,.fn,.fn,.fn,.fn,.fn,.fn,.fn,.fn,.fn,.fn,.fn,.fn,.fn,.fn,.fn,.ptr 5,.fn,.fn,.fn,.fn,.fn,.fn,.int .u64,.fn,.fn,.fn,.fn,.arr 8 178,.arr 8 178,.fn,.fn,.fn,.fn,.fn,.fn,.oth,.fn,.fn,.fn,.ptr 240,.tup,.fn,.fn,.ptr 246,.arr 64 178,.fn,.fn,.arr 32 5,.fn,.fn,.fn,.st [(0,17),(1,17),(2,17),(3,9)],.st [(0,17),(1,17),(2,17),(3,9)],.arr 0 16,.st [(0,271)],.st [(0,271)],.int .u8,.int .u8,.fn,.int .i32,.int .i32,.st [(0,12),(1,12),(2,178),(3,274),(4,5),(5,5),(6,275),(7,276),(8,233),(9,277),(10,278)],.st [(0,12),(1,12),(2,178),(3,274),(4,5),(5,5),(6,275),(7,276),(8,233),(9,277),(10,278)]]
 sizes:=[1,1,1,1,1,1,1,4,4,1,1,1,1,2,2,1,1,1,1,1,1,1,1,1,1,3,3,1,1,1,2,2,1,1,1,1,1,1,1,1,1,1,1,1,1,1,1,1,1,1,2,2,1,1,1,1,1,1,1,1,1,2,2,1,1,1,5,5,1,1,1,1,6,6,1,1,1,1,1,1,1,1,1,1,6,13,13,1,1,1,1,1,5,1,1,1,1,1,1,1,1,1,1,1,1,1,1,1,2,2,2,2,1,1,1,1,1,1,1,1,1,1,1,1,1,1,1,1,1,1,1,1,1,1,1,1,1,1,1,3,3,1,1,1,1,1,1,1,1,1,1,1,1,1,1,1,1,1,1,1,1,1,1,1,1,1,1,1,1,1,1,1,1,128,128,1,1,1,1,1,1,1,1,1,1,1,1,1,1,1,1,1,1,1,1,1,1,1,1,2,2,1,1,1,1,1,1,1,1,1,1,1,1,1,1,1,1,1,1,1,1,1,1,1,1,1,1,1,1,1,1,1,1,1,1,1,1,1,1,1,1,1,1,1,1,8,8,1,1,1,1,1,1,1,1,1,1,1,1,1,1,1,64,1,1,32,1,1,1,4,4,0,0,0,1,1,1,1,1,11,11]
 tys:=[none,none,some tI,some tI,some .bool,some (.int .u8),some (.int .u8),some (.pair tI (.pair tI (.pair .bool (.pair (.int .u8) .unit)))),some (.pair tI (.pair tI (.pair .bool (.pair (.int .u8) .unit)))),some .str,some .str,some .str,some (.int .u64),some (.pair .str (.pair (.int .u64) .unit)),some (.pair .str (.pair (.int .u64) .unit)),none,none,none,none,none,none,some (.int .i32),some (.sl tV),some (.sl tE),some (.sl tI),some tG,some tG,some (.sl (.arr 5 tI)),some (.sl tN),none,some tN,some tN,some (.sl .str),none,none,some (.sl tG),some tI,none,none,none,none,none,none,none,none,some (.sl (.sl tN)),none,none,none,some (.sl (.int .u8)),some tV,some tV,none,none,none,none,none,none,none,some (.sl tM),some (.sl (.arr 6 tI)),some tM,some tM,none,none,some (.sl (.sl tM)),some (.pair tV (.pair (.sl tI) (.pair (.sl tE) (.pair (.sl tM) .unit)))),some (.pair tV (.pair (.sl tI) (.pair (.sl tE) (.pair (.sl tM) .unit)))),none,none,none,none,some tE,some tE,none,some (.sl (.pair tI (.pair tV (.pair tE (.pair tI (.pair tI (.pair (.sl tI) (.pair (.sl tI) .unit)))))))),none,none,none,none,none,none,none,none,some (.arr 6 tI),some (.pair tI (.pair tV (.pair tE (.pair tI (.pair tI (.pair (.sl tI) (.pair (.sl tI) .unit))))))),some (.pair tI (.pair tV (.pair tE (.pair tI (.pair tI (.pair (.sl tI) (.pair (.sl tI) .unit))))))),none,none,some (.sl .bool),none,none,some (.arr 5 tI),none,none,none,none,none,none,none,none,none,none,none,none,none,none,none,some (.pair .str (.pair tI .unit)),some (.pair .str (.pair tI .unit)),some (.pair (.pair .str (.pair tI .unit)) .unit),some (.pair (.pair .str (.pair tI .unit)) .unit),none,none,none,none,none,none,none,none,none,none,none,none,none,none,none,none,none,none,none,none,none,none,none,none,none,none,none,some (.pair tG .unit),some (.pair tG .unit),none,none,none,none,none,none,none,none,none,none,none,none,none,none,none,none,none,none,none,none,none,none,none,some (.int .u64),none,none,none,none,none,none,none,none,some (.arr 128 .str),some (.arr 128 .str),none,none,none,some (.int .u32),some (.sl (.int .u32)),none,none,none,none,none,none,none,none,none,none,none,none,none,none,none,none,none,none,none,none,none,none,none,none,none,none,some (.int .u64),none,none,some tI,none,none,none,none,none,none,none,none,none,none,none,none,none,none,none,none,none,none,none,none,none,none,none,none,none,none,none,none,none,none,some (.int .u64),none,none,none,none,some (.arr 8 (.int .u32)),some (.arr 8 (.int .u32)),none,none,none,none,none,none,none,none,none,none,none,none,none,none,none,some (.arr 64 (.int .u32)),none,none,some (.arr 32 (.int .u8)),none,none,none,none,none,none,none,none,some (.int .u8),some (.int .u8),none,some (.int .i32),some (.int .i32),none,none]
 bytes:=[0,8,8,8,1,1,1,24,24,16,16,16,8,24,24,8,8,8,8,8,16,4,24,24,24,72,72,24,24,8,24,24,24,8,8,24,8,0,8,0,8,8,8,8,8,24,0,8,8,24,16,16,0,8,0,8,8,8,8,24,24,32,32,8,8,24,88,88,0,8,8,8,48,48,8,24,0,8,8,8,8,8,8,8,48,136,136,8,8,24,8,8,40,8,8,8,8,8,8,0,8,8,8,8,0,8,8,8,24,24,24,24,8,8,8,8,8,8,8,0,8,8,8,8,8,8,8,8,8,8,8,8,8,0,8,8,8,8,8,72,72,8,8,8,8,8,8,8,8,8,8,8,8,8,8,0,8,0,8,8,8,8,8,8,8,8,8,0,8,8,8,8,8,2048,2048,8,8,8,4,24,8,8,8,8,8,0,8,8,8,8,8,8,8,8,8,8,8,8,8,32,32,8,16,16,0,8,8,8,8,8,0,8,8,8,8,8,8,8,8,8,8,8,8,8,8,8,8,8,8,8,8,8,8,8,8,8,8,8,8,8,8,8,8,8,8,32,32,8,8,8,8,8,8,8,8,8,8,8,0,8,8,8,256,8,8,32,8,8,8,40,40,0,0,0,1,1,8,4,4,48,48]
 zeros:=cfgZ.map (Option.map (List.map ZG.av))
 glob:=fun n=>bif Nat.beq n 0 then some (.eptr [.val (.arr 64 (.int .u32)) roundTable]) else none
 eqs:=[31,51,73]
 frz:=[24]
theorem cfg_ok:CfgOK cfg Go.Proofs.Tryz.prog:=cfgOK_of cfgZ 281 (by kernel_rfl) rfl (Nat.le_of_ble_eq_true (by kernel_rfl)) (Nat.le_of_ble_eq_true (by kernel_rfl)) (Nat.le_of_ble_eq_true (by kernel_rfl)) (Nat.le_of_ble_eq_true (by kernel_rfl)) (by kernel_rfl)
def cfg2:Cfg:={ cfg with own:=[22] }
theorem cfg2_ok:CfgOK cfg2 Go.Proofs.Tryz.prog:={ cfg_ok with }
end Go.V
namespace Go.Proofs.YtfjpfjcdejjkeaaGreatDoor
open Go Go.V Go.ChangeShapes
def litInt {H:Type}:DataW H→Int
 | .lit (.int _ n)=>n
 | _=>0
def litsOf {H:Type}:DataW H→List Int
 | .agg l=>l.map litInt
 | _=>[]
theorem laid_table:litsOf (Rows.laid_clearway_digest_round:DataW Unit) = roundTable:=by kernel_rfl
theorem arr_words {H:Type} {enc:TypeId × Value→H} {P:Program} {w:World} {sp:Nat→Bool} {held:Bool} {t e:TypeId} {n fuel:Nat} {k:IntKind} {cs:List Value} {x:DataW H × List MemPlace}
  (ht:P.underlying t = some (.array n e)) (he:P.underlying e = some (.int k)) (h1:P.cellsOf e = 1) (ht1:P.cellsOf t = n) (h:DataW.trod enc P w 0 sp held fuel t cs = some x) :
  cs = (litsOf x.1).map (Value.int k)∧(litsOf x.1).length = n:=by
 obtain ⟨xs,m,_,rfl,hl,hxs,hi⟩:=DataW.trod_array ht h
 rw [h1] at hi
 have hlen:cs.length = n:=by rw [hl,ht1]
 have key:∀ i,i < n→cs[i]? = ((xs.map (·.1)).map (fun d=>Value.int k (litInt d)))[i]?:=by
  intro i hn
  have:=hi i hn
  rw [Nat.mul_one,List.getElem?_eq_getElem (by omega)] at this
  have hc:(cs.drop i).take 1 = [cs[i]'(by omega)]:=by
   rw [List.drop_eq_getElem_cons (by omega)]
   rfl
  rw [hc] at this
  obtain ⟨v,e1,e2,_⟩:=DataW.trod_int he this
  simp only [List.cons.injEq,and_true] at e1
  rw [List.getElem?_map,List.getElem?_map,List.getElem?_eq_getElem (by omega),List.getElem?_eq_getElem (by omega),Option.map_some,Option.map_some,e2,e1]
  rfl
 refine ⟨?_,by simp [litsOf,hxs]⟩
 apply List.ext_getElem?
 intro i
 by_cases hi:i < n
 ·rw [key i hi]
  simp only [litsOf,List.getElem?_map,Option.map_map]
  rfl
 ·rw [List.getElem?_eq_none (by omega),List.getElem?_eq_none (by simp [litsOf,hxs]; omega)]
theorem elems_words {fz:Nat→Nat→Option Value} {k:IntKind}:∀ (l:List Int),Elems (CR fz (.int k)) l (l.map (Value.int k))
 | []=>rfl
 | x :: l=>⟨[.int k x],l.map (Value.int k),rfl,rfl,elems_words l⟩
theorem glob_of_laid {W : World} (h : laidMetH Tryz.prog [("clearway/digest.round", Rows.laid_clearway_digest_round)] W) : GlobOK cfg (allFz W) := by
 have h' : laidMet Tryz.prog [("clearway/digest.round", Rows.laid_clearway_digest_round)] W := h
 obtain ⟨ps,⟨g,t,cs,fuel,p,q,e1,e2,e3,e4,_,_⟩,_,_⟩:=h'
 have hg : (Tryz.prog.globalNamed "clearway/digest.round") = some 0 := by kernel_rfl
 rw [hg] at e1
 obtain rfl:=Option.some.inj e1
 have ht:(Tryz.prog.globals[0]?).map (·.type) = some 262:=by kernel_rfl
 rw [ht] at e2
 obtain rfl:=Option.some.inj e2
 obtain ⟨k1,k2⟩:=arr_words (show Tryz.prog.underlying 262 = some (.array 64 178) by kernel_rfl) (show Tryz.prog.underlying 178 = some (.int .u32) by kernel_rfl) (by kernel_rfl) (by kernel_rfl) e4
 have hl:litsOf (Rows.laid_clearway_digest_round:DataW Unit) = roundTable:=laid_table
 simp only at k1 k2
 rw [hl] at k1 k2
 intro n v hv
 have hv':(bif Nat.beq n 0 then some (AV.eptr [.val (.arr 64 (.int .u32)) roundTable]) else none) = some v:=hv
 cases hn:Nat.beq n 0 with
 | false=>rw [hn] at hv'; cases hv'
 | true =>
  rw [hn] at hv'
  simp only [cond_true,Option.some.injEq] at hv'
  subst hv'
  have:=Nat.eq_of_beq_eq_true hn
  subst this
  refine ⟨_,roundTable.map (Value.int .u32),rfl,⟨roundTable.map (Value.int .u32),[],by simp,⟨k2,elems_words _⟩,rfl⟩,?_⟩
  intro j v e
  show W.cell? ⟨0,0 + j,none⟩ = some v
  rw [Nat.zero_add,World.var?_cell hg e3 j,← Array.getElem?_toList,k1]
  exact e
theorem trodAll_len {H:Type} {enc:TypeId × Value→H} {P:Program} {w:World} {base:Nat} {sp:Nat→Bool} {held:Bool}:∀ {ts:List TypeId} {vs:List Value} {ds:List (DataW H)} {p:List MemPlace},DataW.TrodAll enc P w base sp held ts vs ds p→ds.length = ts.length
 | [],[],[],_,_=>rfl
 | _ :: _,_ :: _,_ :: _,_,⟨_,_,_,h,_⟩=>by simp [trodAll_len h]
 | [],[],_ :: _,_,h=>h.elim
 | [],_ :: _,_,_,h=>h.elim
 | _ :: _,[],_,_,h=>h.elim
 | _ :: _,_ :: _,[],_,h=>h.elim
theorem seatOwn:ownKnob Tryz.prog.godebug = none:=by kernel_rfl
theorem seatLaidOut:laidOutB Tryz.prog = true:=by kernel_rfl
theorem seatSlices:∀ t e,t < Tryz.prog.types.size→Tryz.prog.underlying t = some (.slice e)→0 < Tryz.prog.cellsOf e:=slices_full_of Tryz.prog (by kernel_rfl)
theorem seatMaps:mapsRowed Tryz.prog = true:=by kernel_rfl
noncomputable def laidWorld (os : Os) : World :=
  let w0 := World.holding Tryz.prog os ⟨#[], #[], []⟩
  { w0 with heap := w0.heap.modify 0 fun
      | .cells _ t frozen => .cells (roundTable.map (Value.int .u32)).toArray t frozen
      | o => o }
theorem laidWorld_met (os : Os) (args : Array Value) : laidMetH Tryz.prog [("clearway/digest.round", Rows.laid_clearway_digest_round)] ((laidWorld os).forCall (fun _ _ => 0) ⟨#[], args, []⟩).memory :=
 show laidMet _ _ _ from laidMet_of_run' 8 (by kernel_rfl) (by kernel_rfl)
end Go.Proofs.YtfjpfjcdejjkeaaGreatDoor
namespace Go.Proofs
open Go.Shelf
def Tryz.lays166_ren : Ren :=
  { f := fun x => match x with
      | 166 => 169
      | 240 => 205
      | 276 => 228
      | 169 => 170
      | n => n,
    t := fun x => match x with
      | 70 => 198
      | 72 => 200
      | 37 => 49
      | 75 => 203
      | 80 => 175
      | 164 => 253
      | 127 => 233
      | n => n,
    g := fun n => n }
theorem Tryz.lays166 : Lays.n166 Tryz.prog Tryz.lays166_ren :=
  { mixed := by kernel_rfl, f166 := Tryz.func169.trans (congrArg some (by kernel_rfl)), f240 := Tryz.func205.trans (congrArg some (by kernel_rfl)), f276 := Tryz.func228.trans (congrArg some (by kernel_rfl)),
    t0 := Tryz.underlying0, a0 := Tryz.isAgg0, z0 := Tryz.sizeOf0, v0 := Tryz.zeroValue0, t3 := Tryz.underlying3, a3 := Tryz.isAgg3, z3 := Tryz.sizeOf3, v3 := Tryz.zeroValue3,
    t4 := Tryz.underlying4, a4 := Tryz.isAgg4, z4 := Tryz.sizeOf4, v4 := Tryz.zeroValue4, t9 := Tryz.underlying9, a9 := Tryz.isAgg9, z9 := Tryz.sizeOf9, v9 := Tryz.zeroValue9,
    t20 := Tryz.underlying20, a20 := Tryz.isAgg20, z20 := Tryz.sizeOf20, v20 := Tryz.zeroValue20, t37 := Tryz.underlying49, a37 := Tryz.isAgg49, z37 := Tryz.sizeOf49, v37 := Tryz.zeroValue49,
    t70 := Tryz.underlying198, a70 := Tryz.isAgg198, z70 := Tryz.sizeOf198, v70 := Tryz.zeroValue198, t72 := Tryz.underlying200, a72 := Tryz.isAgg200, z72 := Tryz.sizeOf200, v72 := Tryz.zeroValue200,
    t75 := Tryz.underlying203, a75 := Tryz.isAgg203, z75 := Tryz.sizeOf203, v75 := Tryz.zeroValue203, t164 := Tryz.underlying253, a164 := Tryz.isAgg253, z164 := Tryz.sizeOf253, v164 := Tryz.zeroValue253 }
theorem Tryz.lays169 : Lays.n169 Tryz.prog Tryz.lays166_ren :=
  { mixed := by kernel_rfl, f169 := Tryz.func170.trans (congrArg some (by kernel_rfl)),
    t0 := Tryz.underlying0, a0 := Tryz.isAgg0, z0 := Tryz.sizeOf0, v0 := Tryz.zeroValue0, t3 := Tryz.underlying3, a3 := Tryz.isAgg3, z3 := Tryz.sizeOf3, v3 := Tryz.zeroValue3,
    t9 := Tryz.underlying9, a9 := Tryz.isAgg9, z9 := Tryz.sizeOf9, v9 := Tryz.zeroValue9, t37 := Tryz.underlying49, a37 := Tryz.isAgg49, z37 := Tryz.sizeOf49, v37 := Tryz.zeroValue49,
    t70 := Tryz.underlying198, a70 := Tryz.isAgg198, z70 := Tryz.sizeOf198, v70 := Tryz.zeroValue198, t72 := Tryz.underlying200, a72 := Tryz.isAgg200, z72 := Tryz.sizeOf200, v72 := Tryz.zeroValue200,
    t127 := Tryz.underlying233, a127 := Tryz.isAgg233, z127 := Tryz.sizeOf233, v127 := Tryz.zeroValue233 }
theorem Tryz.builderExtra:Builder.Extra Tryz.prog Tryz.lays166_ren where
 sizeBuilder:=by kernel_rfl
 liesBuilder:=by kernel_rfl
 t5:=Tryz.underlying5
 a5:=Tryz.isAgg5
 z5:=Tryz.sizeOf5
 v5:=Tryz.zeroValue5
 infoByte:=by kernel_rfl
 cellsByte:=by kernel_rfl
 sizeByte:=by kernel_rfl
 neB5:=by decide
theorem Tryz.Builder_WriteString (B b:Nat) (bs:List Value) (s:ByteArray) (w:World) (h:Lib.IsBuilderF 200 5 B b bs w) (hlen:bs.length + s.size≤140737488355328) (hBw:B≤w.heap.size) :
  Calls Tryz.prog 169 #[.pointer (some ⟨b,0,none⟩),.string s] w fun e w'=>e = .returned (.tuple #[.int .i64 s.size,.nilIface])∧(Lib.BuilderAtF 200 5 B b (.pointer (some ⟨b,0,none⟩)) (bs++Lib.strCells s) w'∧RowKit.Below B w w'∧Lib.OthersKept 5 (some b) w w') :=
 Any.Builder_WriteString_k Tryz.lays166 Tryz.builderExtra B b bs s w h hlen hBw
theorem Tryz.Builder_String (B b:Nat) (l:List UInt8) (w:World) (h:Lib.IsBuilderF 200 5 B b (Lib.byteCells l) w) (hBw:B≤w.heap.size) :
  Calls Tryz.prog 170 #[.pointer (some ⟨b,0,none⟩)] w fun e w'=>e = .returned (.string ⟨l.toArray⟩)∧(Lib.IsBuilderF 200 5 B b (Lib.byteCells l) w'∧RowKit.Below B w w'∧Lib.OthersKept 5 (some b) w w') :=
 Any.Builder_String_any_k Tryz.lays169 Tryz.builderExtra B b l w h hBw
end Go.Proofs
namespace Go.V.G
open Go.Proofs
def f227_l0x_head:Ann:={ env:=[(0,.cst (.yld 905)),(1,cP 20001)],stk:=[[(0,.cst (.yld 905))],[(2,.ty .str),(3,TI),(4,cP 4)]],bxs:=[(905,.loop false 168 5 [(4,cP 4)]),(20001,.var [.ty (.int .u64)]),(4,.var [.cst (.row 905011030 .whole)]),(905011030,.row (.int .u8) false)] }
def f227_l0x_outs:List (Ex × Ann):=[(.ret,{ env:=[],stk:=[[(0,.cst (.yld 905))],[(2,.ty .str),(3,TI),(4,cP 4)]],bxs:=[(905,.loop false 168 5 [(4,cP 4)]),(4,.var [.cst (.row 905011030 .whole)]),(905011030,.row (.int .u8) false)] })]
def f227_l0x (k1t2:ByteArray) (k1t3:Int):Nat→Int→(List Int)→Option (outDen f227_l0x_outs)
 | 0,_,_=>none
 | k + 1,b20001g0,r905011030 =>
 let v5:Int:=(IntKind.wrap .u8 (andV .u64 b20001g0 (127:Int)))
 bif (!(decide (b20001g0 < (128:Int)))) then
 bif (decide (r905011030.length + ([(orV .u8 v5 (128:Int))]:List Int).length≤appLim)) then
 bif (decide (b20001g0 < (128:Int))) then
 some ((),((),(k1t2,k1t3,()),()),((),(),(r905011030++([(orV .u8 v5 (128:Int))]:List Int)),()))
 else
 f227_l0x k1t2 k1t3 k (shrV .u64 b20001g0 (7:Int)) (r905011030++([(orV .u8 v5 (128:Int))]:List Int))
 else none
 else
 bif (decide (r905011030.length + ([v5]:List Int).length≤appLim)) then
 bif (decide (b20001g0 < (128:Int))) then
 some ((),((),(k1t2,k1t3,()),()),((),(),(r905011030++([v5]:List Int)),()))
 else
 f227_l0x k1t2 k1t3 k (shrV .u64 b20001g0 (7:Int)) (r905011030++([v5]:List Int))
 else none
def f227_l0x_n (n:Nat) (x:f227_l0x_head.den):=f227_l0x x.2.1.2.1.1 x.2.1.2.1.2.1 n x.2.2.2.1.1 x.2.2.2.2.2.1
def f227_l0x_spec:LSpec:={ thaws:=[.cell 4 0 905011030 (.int .u8)],head:=f227_l0x_head,outs:=f227_l0x_outs,fn:=fun x=>f227_l0x_n ((10:Nat)) x }
def f168 (a0:Int):Option (ByteArray × Int × Unit) :=
 let v1:Bool:=(decide (a0 < (-4611686018427387903:Int)))
 bif v1 then
 some ((⟨#[]⟩:ByteArray),(10:Int),())
 else
 let v2:Bool:=(decide (a0 > (4611686018427387903:Int)))
 bif v2 then
 some ((⟨#[]⟩:ByteArray),(10:Int),())
 else
 let v3:Int:=(shlV .u64 (IntKind.wrap .u64 a0) (1:Int))
 let v4:Int:=(IntKind.wrap .u64 (shrV .i64 a0 (63:Int)))
 (f227_l0x (⟨#[]⟩:ByteArray) (0:Int) ((10:Nat)) (xorV .u64 v3 v4) []).bind fun o6 =>
 let u9:(List Int):=o6.2.2.2.2.1
 some ((ofBytes u9),(0:Int),())
def f168_spec:PSpec:={ args:=[tI],res:=[.str,tI],fn:=fun x=>f168 x.1 }
noncomputable def f168_code:Code:=Tryz.f168.body.getD .skip
noncomputable def f168_code_227:Code:=Tryz.f227.body.getD .skip
noncomputable def f168_env:Env0:={ C:=cfg,P:=[],L:=[(⟨11,905000,227,0⟩,f227_l0x_spec)],F:=[(168,Tryz.f168),(204,Tryz.f204),(227,Tryz.f227)] }
theorem f227_l0x_ok:LoopOK f168_env 11 227 905000 (loopAt f168_code_227 0) f227_l0x_spec :=
 loopOK_of (by kernel_rfl) f227_l0x_n (fun x o h=>⟨_,h⟩) (fun x=>by kernel_rfl) (fun n x=>by kernel_rfl)
theorem f168_run (x:tysDen (f168_spec).args):runF f168_env 168 Tryz.f168 f168_code (f168_spec).args (f168_spec).res x = f168_spec.fn x:=by kernel_rfl
theorem f168_enter:Enterable Tryz.prog 168:=enter_fun Tryz.func168 (by kernel_rfl)
theorem f168_envOK:EnvOK Tryz.prog f168_env:=envOK_of cds (by kernel_rfl) cfg_ok trivial trivial ⟨⟨Tryz.func168,by kernel_rfl⟩,⟨Tryz.func204,by kernel_rfl⟩,⟨Tryz.func227,by kernel_rfl⟩,trivial⟩ ⟨⟨Tryz.f227,f168_code_227,rfl,rfl,f227_l0x_ok⟩,trivial⟩ trivial trivial
theorem f168_pure:PureOK Tryz.prog cfg 168 f168_spec:=pure_of_run f168_envOK (fn:=Tryz.f168) (c:=f168_code) rfl rfl f168_spec (fun x _ h=>(f168_run x).trans h)
end Go.V.G
namespace Go.V.G
def intsGo:List Int→Option ByteArray
 | []=>some ⟨#[]⟩
 | n :: l=>(f168 n).bind fun y=>bif decide (y.1.size≤100) then (intsGo l).bind fun r=>some (y.1++r) else none
end Go.V.G
namespace Go.Proofs
open Go.RowKit Go.V Go.V.G
theorem putInt_calls {fz:Nat→Nat→Option Value} (hG:GlobOK cfg fz) {w:World} (hf:FzOK (.of fz) w) {n:Int} {y} (hy:f168 n = some y) :
  Calls Tryz.prog 168 #[.int .i64 n] w fun e w'=>e = .returned (.tuple #[.string y.1,.int .i64 y.2.1])∧Below w.heap.size w w':=by
 refine Calls.mono (f168_pure fz w #[.int .i64 n] (n,()) y hG hf ⟨⟨#[.int .i64 n],rfl,rfl⟩,rfl⟩ hy) ?_
 rintro e w' ⟨cs,fz',rfl,h1,h2,h3⟩
 refine ⟨?_,⟨h3.os,h3.tape,h3.output,h3.size,fun b hb=>h3.block b hb (V.not_owned _ _)⟩⟩
 match cs,h1 with
 | [c1,c2],⟨⟨a1,e1,e2⟩,⟨a2,e3,e4⟩,_⟩ =>
  have ha1:a1.toList = [.string y.1]:=e1
  have ha2:a2.toList = [.int .i64 y.2.1]:=e3
  have hc1:c1 = .string y.1:=by
   rw [e2]
   show a1.getD 0 undef = _
   rw [Array.getD_eq_getD_getElem?,← Array.getElem?_toList,ha1]
   rfl
  have hc2:c2 = .int .i64 y.2.1:=by
   rw [e4]
   show a2.getD 0 undef = _
   rw [Array.getD_eq_getD_getElem?,← Array.getElem?_toList,ha2]
   rfl
  rw [hc1,hc2]
  rfl
theorem heap_below {w w':World} (hk:Below w.heap.size w w') {b:Nat} {o:Obj} (h:w.heap[b]? = some o):w'.heap[b]? = some o:=by
 rw [hk.block b (Array.getElem?_eq_some_iff.1 h).1,h]
theorem builder_below {B b:Nat} {bs:List Value} {w w':World} (h:Lib.IsBuilderF 200 5 B b bs w) (hk:Below w.heap.size w w'):Lib.IsBuilderF 200 5 B b bs w':=by
 have main:∀ p,Lib.BuilderAtF 200 5 B b p bs w→Lib.BuilderAtF 200 5 B b p bs w':=by
  rintro p ⟨h1,v,h2,⟨h3,h4⟩,h5⟩
  refine ⟨h1,v,heap_below hk h2,⟨h3,?_⟩,h5⟩
  rcases h4 with h4 | ⟨g,cap,cur,fz,e1,e2,e3,e4⟩
  ·exact .inl h4
  ·exact .inr ⟨g,cap,cur,fz,e1,e2,heap_below hk e3,e4⟩
 exact h.imp (main _) (main _)
theorem strCells_bytes (s:ByteArray):Lib.strCells s = Lib.byteCells s.data.toList:=rfl
theorem byteCells_app (a b:List UInt8):Lib.byteCells (a++b) = Lib.byteCells a++Lib.byteCells b:=by simp [Lib.byteCells]
theorem byteCells_len (a:List UInt8):(Lib.byteCells a).length = a.length:=by simp [Lib.byteCells]
set_option maxHeartbeats 4000000 in
set_option maxRecDepth 1000000 in
theorem ints_walk {fz:Nat→Nat→Option Value} (hG:GlobOK cfg fz) (l:List Int) (base:Option Addr) (cap:Nat) (w:World) (hf:FzOK (.of fz) w) (hl:l.length≤1000) (s:ByteArray) (hs:intsGo l = some s)
  (hb:∀ j (_:j < l.length),∃ blk off,base = some ⟨blk,off,none⟩∧blk < w.heap.size∧w.cell? ⟨blk,off + j,none⟩ = some (.int .i64 l[j])) :
  Calls Tryz.prog 110 #[.slice base l.length cap] w fun e w'=>e = .returned (.string s)∧Below w.heap.size w w':=by
 have hff:∀ wr,Below w.heap.size w wr→FzOK (.of fz) wr:=by
  intro wr hbw b o v e
  have:=hf b o v e
  rw [← this]
  have hlt:b < w.heap.size:=by
   unfold World.cell? at this
   cases hh:w.heap[b]? with
   | none=>simp [hh] at this
   | some x=>exact (Array.getElem?_eq_some_iff.1 hh).1
  simp only [World.cell?,hbw.block b hlt]
 go_enter Tryz.func110,Tryz.ntmps110
 go_wp2
 go_loopw [10] (fun i wr=>∃ (k:Nat) (acc:List UInt8),k≤l.length∧i = .int .i64 k∧Lib.IsBuilderF 200 5 w.heap.size w.heap.size (Lib.byteCells acc) wr∧Below w.heap.size w wr∧acc.length≤100 * k∧∃ r,intsGo (l.drop k) = some r∧acc++r.data.toList = s.data.toList) (fun i _=>l.length - (intOf i).toNat)
 case atStart =>
  exact ⟨0,[],Nat.zero_le _,rfl,Lib.IsBuilderF.of (Lib.fresh_isBuilder 200 5 w),(Below.refl _ w).alloc (Nat.le_refl _) _,by simp,s,by simpa using hs,by simp⟩
 case round =>
  obtain ⟨k,acc,hk,rfl,hI,hbw,hal,r,hr,hac⟩:=hrel
  have hsz:=hbw.size
  by_cases hlt:k < l.length
  ·obtain ⟨blk,off,rfl,hblk,hcell⟩:=hb k hlt
   have hcr:wr.cell? ⟨blk,off + k,none⟩ = some (.int .i64 l[k]):=by
    rw [← hcell]
    simp only [World.cell?,hbw.block blk hblk]
   rw [List.drop_eq_getElem_cons hlt] at hr
   simp only [intsGo,Option.bind_eq_some_iff] at hr
   obtain ⟨y,hy,hr⟩:=hr
   cases h100:decide (y.1.size≤100) with
   | false=>rw [h100] at hr; cases hr
   | true =>
    rw [h100,cond_true,Option.bind_eq_some_iff] at hr
    obtain ⟨r',hr',hrr⟩:=hr
    have h100':=of_decide_eq_true h100
    go_wp2_with (go_at_call 168; refine (putInt_calls hG (hff _ hbw) hy).mono ?_)
    rintro e W1 ⟨rfl,b1⟩
    have hI1:=builder_below hI b1
    have hbw1:Below w.heap.size w W1:=hbw.trans ⟨b1.os,b1.tape,b1.output,b1.size,fun k hk=>b1.block k (by omega)⟩
    have hsz1:=hbw1.size
    have hlen:(Lib.byteCells acc).length + y.1.size≤140737488355328:=by rw [byteCells_len]; omega
    go_wp2_with (go_at_call 169; refine (Tryz.Builder_WriteString w.heap.size w.heap.size _ y.1 _ hI1 hlen hsz1).mono ?_)
    rintro e W2 ⟨rfl,h1,b2,_⟩
    go_wp2
    go_roundw
    case rel =>
     have hwrap:IntKind.i64.wrap ((k:Int) + 1) = ((k + 1:Nat):Int):=by simp [IntKind.wrap,IntKind.bits,IntKind.signed] <;> omega
     refine ⟨k + 1,acc++y.1.data.toList,by omega,by first | (rw [hwrap]; done) | (simp only [hwrap]; done) | (simp <;> omega),?_,hbw1.trans b2,?_,r',hr',?_⟩
     ·rw [byteCells_app,← strCells_bytes]; exact Or.inr h1
     ·have:y.1.data.toList.length = y.1.size:=rfl
      rw [List.length_append,this]; omega
     ·simp only [Option.some.injEq] at hrr
      rw [← hac,← hrr]
      simp
    case measure =>
     simp [intOf]; omega
  ·go_wp2_with (go_at_call 170; refine (Tryz.Builder_String w.heap.size w.heap.size acc _ hI (by omega)).mono ?_)
   rintro e W1 ⟨rfl,_,b1,_⟩
   go_wp2
   go_ret
   have hk':k = l.length:=by omega
   subst hk'
   rw [List.drop_length] at hr
   simp only [intsGo,Option.some.injEq] at hr
   subst hr
   simp only [List.append_nil] at hac
   exact ⟨by rw [hac]; simp,hbw.trans b1⟩
end Go.Proofs
namespace Go.V.G
open Go.Proofs
def f110 (a0:List Int):Option (ByteArray × Unit):=bif decide (a0.length≤1000) then (intsGo a0).bind fun r=>some (r,()) else none
def f110_spec:PSpec:={ args:=[.sl (.int .i64)],res:=[.str],fn:=fun x=>f110 x.1 }
theorem elems_int_get {fz:Nat→Nat→Option Value}:∀ {l:List Int} {cs:List Value},Elems (CR fz (.int .i64)) l cs→∀ j (h:j < l.length),cs[j]? = some (.int .i64 l[j])
 | [],_,_,j,h=>by simp at h
 | x :: l,cs,⟨c1,c2,e,h1,h2⟩,j,h=>by
  have h1':c1 = [.int .i64 x]:=h1
  subst h1'
  subst e
  cases j with
  | zero=>rfl
  | succ j=>simpa using elems_int_get h2 j (by simpa using h)
theorem f110_pure:PureOK Go.Proofs.Tryz.prog cfg 110 f110_spec:=by
 intro fz w args x y hG hf ha hy
 obtain ⟨l,u⟩:=x
 obtain ⟨s,u'⟩:=y
 change f110 l = some (s,u') at hy
 unfold f110 at hy
 cases hl:decide (List.length (α:=Int) l≤1000) with
 | false=>rw [hl] at hy; cases hy
 | true =>
  rw [hl,cond_true,Option.bind_eq_some_iff] at hy
  obtain ⟨s',hs,e⟩:=hy
  simp only [Option.some.injEq,Prod.mk.injEq] at e
  obtain ⟨rfl,_⟩:=e
  obtain ⟨al⟩:=args
  match al,ha with
  | [c],⟨⟨arr,e1,e2⟩,_⟩ =>
   obtain ⟨v,e3,hv⟩:=e1
   have hc:c = v:=by
    rw [e2]
    show arr.getD 0 undef = v
    rw [Array.getD_eq_getD_getElem?,← Array.getElem?_toList,e3]
    rfl
   subst hc
   have fin:∀ base cap,c = .slice base (List.length (α:=Int) l) cap→(∀ j (_:j < List.length (α:=Int) l),∃ blk off,base = some ⟨blk,off,none⟩∧blk < w.heap.size∧w.cell? ⟨blk,off + j,none⟩ = some (.int .i64 (l[j]:Int))) →
     Calls Go.Proofs.Tryz.prog 110 #[c] w fun e w'=>∃ cs fz',e = .returned (resVal cs)∧TVs fz' [.str] (s',u') cs∧FzOK (.of fz') w'∧Tr (.of fz) w (.of fz') w':=by
    intro base cap hc hb
    subst hc
    refine Calls.mono (ints_walk hG l base cap w hf (of_decide_eq_true hl) s' hs hb) ?_
    rintro e w' ⟨rfl,hb⟩
    refine ⟨[.string s'],fz,rfl,⟨⟨#[.string s'],rfl,rfl⟩,rfl⟩,?_,⟨hb.os,hb.tape,hb.output,hb.size,fun _ _ _ h=>h,fun _ _ h=>.inl h,fun _ h=>.inl h,fun b hb' _=>hb.block b hb'⟩⟩
    intro b o v e
    have:=hf b o v e
    rw [← this]
    have hlt:b < w.heap.size:=by
     unfold World.cell? at this
     cases hh:w.heap[b]? with
     | none=>simp [hh] at this
     | some x=>exact (Array.getElem?_eq_some_iff.1 hh).1
    simp only [World.cell?,hb.block b hlt]
   rcases hv with ⟨rfl,a0,rfl⟩ | ⟨blk,off,cap,cs,rfl,h1,h2,h3⟩
   ·exact fin a0 0 rfl (fun j h=>by simp at h)
   ·refine fin _ cap rfl (fun j h=>⟨blk,off,rfl,?_,hf _ _ _ (h3 j _ (elems_int_get h2 j h))⟩)
    have:=hf _ _ _ (h3 j _ (elems_int_get h2 j h))
    unfold World.cell? at this
    cases hh:w.heap[blk]? with
    | none=>simp [hh] at this
    | some x=>exact (Array.getElem?_eq_some_iff.1 hh).1
theorem f110_enter:Enterable Go.Proofs.Tryz.prog 110:=enter_fun Go.Proofs.Tryz.func110 (by kernel_rfl)
end Go.V.G
namespace Go.V
open Go.Sort
variable [Codes]
theorem putCells_get {off:Nat} {vals c:Array Value} {k:Nat} (hk:k < c.size):(putCells id off vals c)[k]? = some (if off≤k∧k < off + vals.size then vals[k - off]! else c[k]):=by
 unfold putCells
 rw [Array.getElem?_mapIdx,Array.getElem?_eq_getElem hk]
 rfl
theorem row_put {g:Gh} {s:St} {tm:Array Value} {tms:List (Array Value)} {w:World} (hs:StR g s tm tms w) {b blk:Nat} {T:Ty} {l y:List T.den} {gb:Gb} (hb:find s.bxs b = some (.row T false l)) (hg:g.bx b = some gb) (hbk:gb.blk = some blk) (ho:gb.own = true)
  (n:Nat) {vals:Array Value} (hel:Elems (CR g.fz T) y vals.toList) (hlen:y.length = l.length) (os:Array Obj) :
  StR g { s with bxs:=setB s.bxs b (.row T false y) } tm tms (grow (putRow id (Go.Sort.ahead w n) blk gb.off vals) os)∧Tr g w g (grow (putRow id (Go.Sort.ahead w n) blk gb.off vals) os):=by
 obtain ⟨gb',e1,e2⟩:=hs.bxs.box _ _ hb
 rw [hg] at e1
 cases e1
 obtain ⟨k1,k2,k3,k4,k5⟩:=e2
 simp only [hbk,ho] at k5
 obtain ⟨cells,cs,c1,c2,c3,c4,c5,_⟩:=k5
 have hno:=c5 trivial
 obtain ⟨el,lo,hi,h1,h2⟩:=c1
 have hblk:blk < w.heap.size:=(Array.getElem?_eq_some_iff.1 h1).1
 have hT:∀ (x:T.den) (cs:List Value),CR g.fz T x cs→cs.length = T.size:=fun x cs h=>h.length
 have hvl:vals.size = l.length * T.size:=by
  have:=hel.length hT
  rw [Array.length_toList,hlen] at this
  exact this
 let w1:=putRow id (Go.Sort.ahead w n) blk gb.off vals
 have hheap:∀ j,w1.heap[j]? = if blk = j then (w.heap[j]?).map (onCells (putCells id gb.off vals)) else w.heap[j]?:=by
  intro j
  show ((Go.Sort.ahead w n).heap.modify blk _)[j]? = _
  rw [Array.getElem?_modify]
  rfl
 have hsize:w1.heap.size = w.heap.size:=by
  show ((Go.Sort.ahead w n).heap.modify blk _).size = _
  rw [Array.size_modify]
  rfl
 have hnew:w1.heap[blk]? = some (.cells (putCells id gb.off vals cells.toArray) el (lo,hi)):=by
  rw [hheap blk,if_pos rfl,h1]
  rfl
 have hcs:(putCells id gb.off vals cells.toArray).size = cells.length:=by unfold putCells; simp
 have hup:=hs.upd (w':=w1) hg hbk ho hno rfl rfl rfl (by rw [hsize]; exact Nat.le_refl _) (fun j hj _=>by rw [hheap j,if_neg (Ne.symm hj)]) (.row T false y) (by
  refine ⟨k1,k2,by rw [hlen]; exact k3,k4,?_⟩
  simp only [hbk,ho]
  refine ⟨(putCells id gb.off vals cells.toArray).toList,vals.toList,⟨el,lo,hi,by simpa using hnew,fun o ho'=>h2 o (by rw [Array.length_toList,hcs] at ho'; exact ho')⟩,by rw [Array.length_toList,hcs]; exact c2,hel,?_,fun _=>hno,fun h=>nomatch h⟩
  intro j v e
  have hj:j < vals.size:=by
   have:=(List.getElem?_eq_some_iff.1 e).1
   rwa [Array.length_toList] at this
  have hcap:l.length * T.size≤gb.cap * T.size:=Nat.mul_le_mul_right _ (by omega)
  rw [Array.getElem?_toList] at e ⊢
  rw [putCells_get (by simp; omega),if_pos ⟨by omega,by omega⟩,Nat.add_sub_cancel_left]
  rw [getElem!_pos vals j hj]
  rw [Array.getElem?_eq_getElem hj] at e
  exact e)
 have hgrow:∀ j,j < w1.heap.size→(grow w1 os).heap[j]? = w1.heap[j]?:=by
  intro j hj
  show (w1.heap++os)[j]? = _
  rw [Array.getElem?_append_left hj]
 refine ⟨hup.1.grow hgrow,hup.2.trans ⟨rfl,rfl,rfl,?_,fun _ _ _ h=>h,fun _ _ h=>.inl h,fun _ h=>.inl h,fun j hj _=>hgrow j hj⟩⟩
 show w1.heap.size≤(w1.heap++os).size
 rw [Array.size_append]
 omega
theorem putRow_map {α:Type} [Inhabited α] (enc:α→Value) (w:World) (blk off:Nat) (d:Array α):putRow enc w blk off d = putRow id w blk off (d.map enc):=by
 unfold putRow
 congr 1
 funext c
 unfold putCells
 congr 1
 funext k x
 rw [Array.size_map]
 split
 ·rename_i h
  rw [getElem!_pos d (k - off) (by omega),id,getElem!_pos (d.map enc) (k - off) (by rw [Array.size_map]; omega),Array.getElem_map]
 ·rfl
theorem row_arg {g:Gh} {s:St} {tm:Array Value} {tms:List (Array Value)} {w:World} (hs:StR g s tm tms w) {b:Nat} {T:Ty} {l:List T.den} (hb:find s.bxs b = some (.row T false l)) {v:Value} (hv:VR g (.row b .whole) v) :
  (l = []∧∃ p cap,v = .slice p 0 cap) ∨ ∃ gb blk cells cs,g.bx b = some gb∧gb.blk = some blk∧gb.own = true∧v = .slice (some ⟨blk,gb.off,none⟩) l.length gb.cap∧BlkIs w blk cells∧gb.off + gb.cap * T.size≤cells.length∧l.length≤gb.cap ∧
   Elems (CR g.fz T) l cs∧(∀ j v,cs[j]? = some v→cells[gb.off + j]? = some v)∧blk < w.heap.size:=by
 obtain ⟨gb,v0,e1,e2,e3,hw⟩:=hv
 simp only [List.cons.injEq,and_true] at e3
 subst e3
 obtain ⟨gb',f1,f2⟩:=hs.bxs.box _ _ hb
 rw [e1] at f1
 cases f1
 obtain ⟨k1,k2,k3,k4,k5⟩:=f2
 cases hbk:gb.blk with
 | none =>
  simp only [hbk] at k5
  simp only [WinR,hbk] at hw
  exact .inl ⟨k5.1,_,0,hw.1⟩
 | some blk =>
  simp only [WinR,hbk] at hw
  cases ho:gb.own with
  | false =>
   simp only [hbk,ho] at k5
   rcases k5.1 with h | h
   ·cases h
   ·refine .inl ⟨h,some ⟨blk,gb.off,none⟩,gb.cap,?_⟩
    rw [hw,k3,h]
    rfl
  | true =>
   simp only [hbk,ho] at k5
   obtain ⟨cells,cs,c1,c2,c3,c4,c5,_⟩:=k5
   have hlt:blk < w.heap.size:=by
    obtain ⟨_,_,_,h,_⟩:=c1
    exact (Array.getElem?_eq_some_iff.1 h).1
   exact .inr ⟨gb,blk,cells,cs,e1,hbk,ho,by rw [hw,k3],c1,c2,by omega,c3,c4,hlt⟩
theorem vsR_one {g:Gh} {v:AV} {l:List AV} {vals:Array Value} (h:VsR g (v :: l) vals.toList):∃ c cs,vals = #[c]++cs∧VR g v c∧VsR g l cs.toList:=by
 obtain ⟨vs⟩:=vals
 cases vs with
 | nil=>exact h.elim
 | cons c vs=>exact ⟨c,vs.toArray,by simp,h.1,h.2⟩
theorem blkIs_holds {w:World} {blk off:Nat} {cells:List Value} (h:BlkIs w blk cells) {vals:List Value} (hv:∀ j v,vals[j]? = some v→cells[off + j]? = some v):Holds id w blk off vals.toArray:=by
 intro j hj
 have hj':j < vals.length:=by simpa using hj
 have he:vals[j]? = some vals[j]:=List.getElem?_eq_getElem hj'
 have hc:=hv j _ he
 obtain ⟨el,lo,hi,h1,h2⟩:=h
 have hlt:off + j < cells.length:=(List.getElem?_eq_some_iff.1 hc).1
 refine ⟨?_,?_⟩
 ·have hB:BlkIs w blk cells:=⟨el,lo,hi,h1,h2⟩
  rw [hB.cell (off + j),hc,id,getElem!_pos vals.toArray j hj]
  rfl
 ·have h3:=h2 (off + j) hlt
  simp only [World.frozen?,h1]
  simpa using h3
end Go.V
namespace Go.Proofs
open Go.Shelf
def Tryz.lays189_ren:Go.Shelf.Ren:=⟨fun | 189=>71 | 125=>124 | 257=>123 | 128=>184 | 129=>185 | 294=>175 | 295=>176 | 296=>177 | 297=>178 | 298=>179 | 299=>180 | 216=>181 | 300=>182 | 301=>183 | 328=>215 | 329=>216 | 330=>217 | 331=>218 | 332=>219 | 215=>220 | 343=>232 | n=>n,fun | 28=>24 | 3=>3 | 46=>164 | 0=>0 | 51=>178 | 53=>206 | 4=>4 | 183=>210 | 182=>209 | 131=>185 | 5=>5 | 9=>9 | 218=>240 | 222=>194 | 228=>257 | 229=>258 | n=>n,fun | n=>n⟩
theorem Tryz.lays189:Go.Proofs.Lays.n189 Tryz.prog Tryz.lays189_ren:={
 mixed:=by kernel_rfl
 f125:=Tryz.func124.trans (congrArg some (by kernel_rfl))
 f128:=Tryz.func184.trans (congrArg some (by kernel_rfl))
 f129:=Tryz.func185.trans (congrArg some (by kernel_rfl))
 f189:=Tryz.func71.trans (congrArg some (by kernel_rfl))
 f215:=Tryz.func220.trans (congrArg some (by kernel_rfl))
 f216:=Tryz.func181.trans (congrArg some (by kernel_rfl))
 f257:=Tryz.func123.trans (congrArg some (by kernel_rfl))
 f294:=Tryz.func175.trans (congrArg some (by kernel_rfl))
 f295:=Tryz.func176.trans (congrArg some (by kernel_rfl))
 f296:=Tryz.func177.trans (congrArg some (by kernel_rfl))
 f297:=Tryz.func178.trans (congrArg some (by kernel_rfl))
 f298:=Tryz.func179.trans (congrArg some (by kernel_rfl))
 f299:=Tryz.func180.trans (congrArg some (by kernel_rfl))
 f300:=Tryz.func182.trans (congrArg some (by kernel_rfl))
 f301:=Tryz.func183.trans (congrArg some (by kernel_rfl))
 f328:=Tryz.func215.trans (congrArg some (by kernel_rfl))
 f329:=Tryz.func216.trans (congrArg some (by kernel_rfl))
 f330:=Tryz.func217.trans (congrArg some (by kernel_rfl))
 f331:=Tryz.func218.trans (congrArg some (by kernel_rfl))
 f332:=Tryz.func219.trans (congrArg some (by kernel_rfl))
 f343:=Tryz.func232.trans (congrArg some (by kernel_rfl))
 t0:=Tryz.underlying0
 a0:=Tryz.isAgg0
 z0:=Tryz.sizeOf0
 v0:=Tryz.zeroValue0
 t3:=Tryz.underlying3
 a3:=Tryz.isAgg3
 z3:=Tryz.sizeOf3
 v3:=Tryz.zeroValue3
 t4:=Tryz.underlying4
 a4:=Tryz.isAgg4
 z4:=Tryz.sizeOf4
 v4:=Tryz.zeroValue4
 t5:=Tryz.underlying5
 a5:=Tryz.isAgg5
 z5:=Tryz.sizeOf5
 v5:=Tryz.zeroValue5
 t9:=Tryz.underlying9
 a9:=Tryz.isAgg9
 z9:=Tryz.sizeOf9
 v9:=Tryz.zeroValue9
 t28:=Tryz.underlying24
 a28:=Tryz.isAgg24
 z28:=Tryz.sizeOf24
 v28:=Tryz.zeroValue24
 t46:=Tryz.underlying164
 a46:=Tryz.isAgg164
 z46:=Tryz.sizeOf164
 v46:=Tryz.zeroValue164
 t51:=Tryz.underlying178
 a51:=Tryz.isAgg178
 z51:=Tryz.sizeOf178
 v51:=Tryz.zeroValue178
 t53:=Tryz.underlying206
 a53:=Tryz.isAgg206
 z53:=Tryz.sizeOf206
 v53:=Tryz.zeroValue206
 t131:=Tryz.underlying185
 a131:=Tryz.isAgg185
 z131:=Tryz.sizeOf185
 v131:=Tryz.zeroValue185
 t182:=Tryz.underlying209
 a182:=Tryz.isAgg209
 z182:=Tryz.sizeOf209
 v182:=Tryz.zeroValue209
 t183:=Tryz.underlying210
 a183:=Tryz.isAgg210
 z183:=Tryz.sizeOf210
 v183:=Tryz.zeroValue210
 t218:=Tryz.underlying240
 a218:=Tryz.isAgg240
 z218:=Tryz.sizeOf240
 v218:=Tryz.zeroValue240
 t222:=Tryz.underlying194
 a222:=Tryz.isAgg194
 z222:=Tryz.sizeOf194
 v222:=Tryz.zeroValue194
 t228:=Tryz.underlying257
 a228:=Tryz.isAgg257
 z228:=Tryz.sizeOf257
 v228:=Tryz.zeroValue257
 t229:=Tryz.underlying258
 a229:=Tryz.isAgg258
 z229:=Tryz.sizeOf258
 v229:=Tryz.zeroValue258 }
end Go.Proofs
namespace Go.V.G
open Go.Proofs Go.Sort
def sortInts (l:List Int):Option (List Int):=bif decide (l.length≤1073741824) then some (l.mergeSort fun x y=>decide (x≤y)) else none
def sortInts_spec:ISpec:={ T:=.int .i64,rest:=[],fn:=sortInts }
theorem elems_ints {fz:Nat→Nat→Option Value}:∀ (l:List Int),Elems (CR fz (.int .i64)) l (l.map (Value.int .i64))
 | []=>rfl
 | x :: l=>⟨[.int .i64 x],l.map (Value.int .i64),rfl,rfl,elems_ints l⟩
theorem elems_ints_eq {fz:Nat→Nat→Option Value}:∀ {l:List Int} {cs:List Value},Elems (CR fz (.int .i64)) l cs→cs = l.map (Value.int .i64)
 | [],_,h=>h
 | x :: l,_,⟨c1,c2,e,h1,h2⟩=>by
  have h1':c1 = [.int .i64 x]:=h1
  rw [e,h1',elems_ints_eq h2]
  rfl
theorem sortInts_inpl:InOK Go.Proofs.Tryz.prog cfg 71 sortInts_spec:=by
 intro g s tm tms w b (l:List Int) (y:List Int) vals hs hG (hb:find s.bxs b = some (.row (.int .i64) false l)) (hy:sortInts l = some y) (hv:VsR g [.row b .whole] vals.toList)
 show Calls Go.Proofs.Tryz.prog 71 vals w fun e w'=>∃ g',e = .returned (.tuple #[])∧StR g' { s with bxs:=setB s.bxs b (.row (.int .i64) false y) } tm tms w'∧Tr g w g' w'
 obtain ⟨c,cs0,rfl,hc,hr⟩:=vsR_one hv
 have hcs:cs0 = #[]:=by
  obtain ⟨l0⟩:=cs0
  cases l0 with
  | nil=>rfl
  | cons a l0=>exact hr.elim
 subst hcs
 rw [Array.append_empty]
 unfold sortInts at hy
 cases hlim:decide (l.length≤1073741824) with
 | false=>rw [hlim] at hy; cases hy
 | true =>
  rw [hlim,cond_true,Option.some.injEq] at hy
  have hlim':=of_decide_eq_true hlim
  rcases row_arg hs hb hc with ⟨rfl,p,cap,rfl⟩ | ⟨gb,blk,cells,cs,e1,e2,e3,rfl,e4,e5,e6,e7,e8,e9⟩
  ·refine Calls.mono (Any.slices_Sort_int_none Tryz.lays189 p cap w) ?_
   rintro e w' ⟨rfl,rfl⟩
   have hy0:y = []:=by rw [← hy]; simp
   subst hy0
   exact ⟨g,rfl,hs.bxSame hb,Tr.refl _ _⟩
  ·have hcs:=elems_ints_eq e7
   subst hcs
   have hH:Holds (Value.int .i64) w blk gb.off l.toArray:=by
    have h:=blkIs_holds e4 e8
    intro j hj
    have hj':j < (List.map (Value.int .i64) l).toArray.size:=by simpa using hj
    obtain ⟨h1,h2⟩:=h j hj'
    refine ⟨?_,h2⟩
    rw [h1,id,getElem!_pos _ j hj',getElem!_pos _ j hj]
    simp
   refine Calls.mono (Any.slices_Sort_int Tryz.lays189 blk gb.off gb.cap l w hH e9 (by omega)) ?_
   rintro e w' ⟨rfl,n,os,rfl⟩
   rw [putRow_map]
   refine ⟨g,rfl,?_⟩
   have hlen:y.length = l.length:=by rw [← hy]; exact List.length_mergeSort l
   refine row_put hs hb e1 e2 e3 n ?_ hlen os
   rw [hy]
   have:(Array.map (Value.int .i64) y.toArray).toList = y.map (Value.int .i64):=by simp
   rw [this]
   exact elems_ints y
theorem sortInts_enter:Enterable Go.Proofs.Tryz.prog 71:=enter_fun Go.Proofs.Tryz.func71 (by kernel_rfl)
end Go.V.G
namespace Go.Proofs
open Go.Shelf Go.RowKit Go.Lib Go.Sort
def Tryz.laysV_ren:Go.Shelf.Ren:=⟨fun | 6=>120 | 15=>124 | 14=>174 | 28=>184 | 29=>185 | 20=>207 | 21=>208 | 22=>209 | 23=>210 | 24=>211 | 25=>212 | 26=>213 | 27=>214 | 46=>229 | 47=>216 | 48=>217 | 49=>230 | 50=>231 | 57=>238 | n=>n,fun | 22=>22 | 24=>51 | 25=>161 | 3=>3 | 39=>164 | 0=>0 | 53=>178 | 55=>206 | 4=>4 | 46=>210 | 45=>209 | 50=>185 | 5=>5 | 9=>9 | 66=>240 | 70=>194 | 76=>257 | 77=>258 | n=>n,fun | n=>n⟩
theorem Tryz.laysV:Go.Proofs.SlLaysF0.n6 Tryz.prog Tryz.laysV_ren:={
 mixed:=by kernel_rfl
 f6:=⟨Tryz.f120.name,by decide,Tryz.func120.trans (congrArg some (by kernel_rfl))⟩
 f14:=⟨Tryz.f174.name,by decide,Tryz.func174.trans (congrArg some (by kernel_rfl))⟩
 f15:=Tryz.func124.trans (congrArg some (by kernel_rfl))
 f20:=⟨Tryz.f207.name,by decide,Tryz.func207.trans (congrArg some (by kernel_rfl))⟩
 f21:=⟨Tryz.f208.name,by decide,Tryz.func208.trans (congrArg some (by kernel_rfl))⟩
 f22:=⟨Tryz.f209.name,by decide,Tryz.func209.trans (congrArg some (by kernel_rfl))⟩
 f23:=⟨Tryz.f210.name,by decide,Tryz.func210.trans (congrArg some (by kernel_rfl))⟩
 f24:=⟨Tryz.f211.name,by decide,Tryz.func211.trans (congrArg some (by kernel_rfl))⟩
 f25:=⟨Tryz.f212.name,by decide,Tryz.func212.trans (congrArg some (by kernel_rfl))⟩
 f26:=⟨Tryz.f213.name,by decide,Tryz.func213.trans (congrArg some (by kernel_rfl))⟩
 f27:=⟨Tryz.f214.name,by decide,Tryz.func214.trans (congrArg some (by kernel_rfl))⟩
 f28:=Tryz.func184.trans (congrArg some (by kernel_rfl))
 f29:=Tryz.func185.trans (congrArg some (by kernel_rfl))
 f46:=⟨Tryz.f229.name,by decide,Tryz.func229.trans (congrArg some (by kernel_rfl))⟩
 f47:=Tryz.func216.trans (congrArg some (by kernel_rfl))
 f48:=Tryz.func217.trans (congrArg some (by kernel_rfl))
 f49:=⟨Tryz.f230.name,by decide,Tryz.func230.trans (congrArg some (by kernel_rfl))⟩
 f50:=⟨Tryz.f231.name,by decide,Tryz.func231.trans (congrArg some (by kernel_rfl))⟩
 f57:=⟨Tryz.f238.name,by decide,Tryz.func238.trans (congrArg some (by kernel_rfl))⟩
 t0:=Tryz.underlying0
 a0:=Tryz.isAgg0
 z0:=Tryz.sizeOf0
 v0:=Tryz.zeroValue0
 t3:=Tryz.underlying3
 a3:=Tryz.isAgg3
 z3:=Tryz.sizeOf3
 v3:=Tryz.zeroValue3
 t4:=Tryz.underlying4
 a4:=Tryz.isAgg4
 z4:=Tryz.sizeOf4
 v4:=Tryz.zeroValue4
 t5:=Tryz.underlying5
 a5:=Tryz.isAgg5
 z5:=Tryz.sizeOf5
 v5:=Tryz.zeroValue5
 t9:=Tryz.underlying9
 a9:=Tryz.isAgg9
 z9:=Tryz.sizeOf9
 v9:=Tryz.zeroValue9
 t22:=Tryz.underlying22
 a22:=Tryz.isAgg22
 z22:=Tryz.sizeOf22
 v22:=Tryz.zeroValue22
 t25:=Tryz.underlying161
 a25:=Tryz.isAgg161
 z25:=Tryz.sizeOf161
 v25:=Tryz.zeroValue161
 t39:=Tryz.underlying164
 a39:=Tryz.isAgg164
 z39:=Tryz.sizeOf164
 v39:=Tryz.zeroValue164
 t45:=Tryz.underlying209
 a45:=Tryz.isAgg209
 z45:=Tryz.sizeOf209
 v45:=Tryz.zeroValue209
 t46:=Tryz.underlying210
 a46:=Tryz.isAgg210
 z46:=Tryz.sizeOf210
 v46:=Tryz.zeroValue210
 t50:=Tryz.underlying185
 a50:=Tryz.isAgg185
 z50:=Tryz.sizeOf185
 v50:=Tryz.zeroValue185
 t53:=Tryz.underlying178
 a53:=Tryz.isAgg178
 z53:=Tryz.sizeOf178
 v53:=Tryz.zeroValue178
 t55:=Tryz.underlying206
 a55:=Tryz.isAgg206
 z55:=Tryz.sizeOf206
 v55:=Tryz.zeroValue206
 t66:=Tryz.underlying240
 a66:=Tryz.isAgg240
 z66:=Tryz.sizeOf240
 v66:=Tryz.zeroValue240
 t70:=Tryz.underlying194
 a70:=Tryz.isAgg194
 z70:=Tryz.sizeOf194
 v70:=Tryz.zeroValue194
 t76:=Tryz.underlying257
 a76:=Tryz.isAgg257
 z76:=Tryz.sizeOf257
 v76:=Tryz.zeroValue257
 t77:=Tryz.underlying258
 a77:=Tryz.isAgg258
 z77:=Tryz.sizeOf258
 v77:=Tryz.zeroValue258 }
set_option maxHeartbeats 2000000 in
theorem cmp_walk (a sa b sb:Int) (W:World) (h:IntKind.i64.wrap (a - b) = a - b) :
  Calls Tryz.prog 121 #[.agg #[.int .i64 a,.int .i64 sa],.agg #[.int .i64 b,.int .i64 sb]] W fun e w'=>e = .returned (.int .i64 (a - b))∧∃ q os',w' = grow (W.drewN q) os':=by
 go_enter Tryz.func121,Tryz.ntmps121
 go_wp2
 go_ret
 refine ⟨rfl,0,#[.cells #[.int .i64 a,.int .i64 sa] 51,.cells #[.int .i64 b,.int .i64 sb] 51],?_⟩
 rw [alloc_eq_grow,alloc_eq_grow,grow_grow]
 rfl
end Go.Proofs
namespace Go.V.G
open Go.Proofs Go.Sort
abbrev VX:=Int × Int × Unit
def leV (x y:VX):Bool:=decide (x.1≤y.1)
def distinctV:List VX→Bool
 | []=>true
 | x :: l=>l.all (fun y=>!decide (x.1 = y.1)) && distinctV l
def smallV (l:List VX):Bool:=l.all fun x=>decide (-4611686018427387904≤x.1) && decide (x.1≤4611686018427387903)
def sortV (l:List VX):Option (List VX):=bif !l.isEmpty && distinctV l && smallV l && decide (l.length≤1073741824) then some (l.mergeSort leV) else none
def sortV_spec:ISpec:={ T:=.pair (.int .i64) (.pair (.int .i64) .unit),rest:=[.fn 121 []],fn:=sortV }
abbrev SV:={ x:VX // -4611686018427387904≤x.1∧x.1≤4611686018427387903 }
instance:Inhabited SV:=⟨⟨(0,0,()),by decide⟩⟩
def encV2 (x:SV):List Value:=[.int .i64 x.1.1,.int .i64 x.1.2.1]
def cfV (x y:SV):Int:=x.1.1 - y.1.1
theorem lt_iff (x y:SV):ltOf cfV x y = true ↔ x.1.1 < y.1.1:=by
 unfold ltOf cfV
 rw [decide_eq_true_eq]
 omega
theorem lt_iffF (x y:SV):ltOf cfV x y = false ↔ y.1.1≤x.1.1:=by
 rw [← Bool.not_eq_true,lt_iff]
 omega
theorem swoV:SWO (ltOf cfV) where
 irrefl:=fun x=>by rw [lt_iffF]; exact Int.le_refl _
 trans:=fun x y z h1 h2=>by rw [lt_iff] at *; omega
 ntrans:=fun x y z h1 h2=>by rw [lt_iffF] at *; omega
theorem cmpV (W:World) (blk off size:Nat):CmpLays Tryz.prog 121 #[] encV2 2 cfV blk off size W:=by
 intro m os dk _ x y
 have h:IntKind.i64.wrap (x.1.1 - y.1.1) = x.1.1 - y.1.1:=by
  obtain ⟨⟨a,_⟩,h1,h2⟩:=x
  obtain ⟨⟨b,_⟩,h3,h4⟩:=y
  simp only at h1 h2 h3 h4 ⊢
  simp [IntKind.wrap,IntKind.bits,IntKind.signed]
  omega
 exact cmp_walk x.1.1 x.1.2.1 y.1.1 y.1.2.1 _ h
theorem elemsV {fz:Nat→Nat→Option Value}:∀ (l:List VX),Elems (CR fz (.pair (.int .i64) (.pair (.int .i64) .unit))) l (l.flatMap fun x=>[.int .i64 x.1,.int .i64 x.2.1])
 | []=>rfl
 | x :: l=>⟨[.int .i64 x.1,.int .i64 x.2.1],_,rfl,⟨[.int .i64 x.1],[.int .i64 x.2.1],rfl,rfl,⟨[.int .i64 x.2.1],[],rfl,rfl,rfl⟩⟩,elemsV l⟩
theorem elemsV_eq {fz:Nat→Nat→Option Value}:∀ {l:List VX} {cs:List Value},Elems (CR fz (.pair (.int .i64) (.pair (.int .i64) .unit))) l cs→cs = l.flatMap fun x=>[.int .i64 x.1,.int .i64 x.2.1]
 | [],_,h=>h
 | x :: l,_,⟨c1,c2,e,⟨d1,d2,e1,h1,⟨d3,d4,e2,h2,h3⟩⟩,h4⟩=>by
  have g1:d1 = [.int .i64 x.1]:=h1
  have g2:d3 = [.int .i64 x.2.1]:=h2
  have g3:d4 = []:=h3
  rw [e,e1,e2,g1,g2,g3,elemsV_eq h4]
  rfl
theorem flatMap_two (l:List VX) (t:Nat) (h:t < 2 * l.length):(l.flatMap fun x=>[Value.int .i64 x.1,Value.int .i64 x.2.1])[t]? = some (if t % 2 = 0 then Value.int .i64 (l[t / 2]'(by omega)).1 else Value.int .i64 (l[t / 2]'(by omega)).2.1):=by
 induction l generalizing t with
 | nil=>simp at h
 | cons x l ih =>
  match t,h with
  | 0,_=>rfl
  | 1,_=>rfl
  | t + 2,h =>
   have e1:(t + 2) / 2 = t / 2 + 1:=by omega
   have e2:(t + 2) % 2 = t % 2:=by omega
   have:=ih t (by simp at h; omega)
   simp only [List.flatMap_cons,List.cons_append,List.nil_append,List.getElem?_cons_succ,this,e1,e2,List.getElem_cons_succ]
theorem flatMap_len (l:List VX):(l.flatMap fun x=>[Value.int .i64 x.1,Value.int .i64 x.2.1]).length = 2 * l.length:=by
 induction l with
 | nil=>rfl
 | cons x l ih=>simp only [List.flatMap_cons,List.length_append,ih,List.length_cons,List.length_nil]; omega
theorem flatV (d:Array SV):(flatK encV2 2 d).toList = (d.toList.map (·.1)).flatMap fun x=>[.int .i64 x.1,.int .i64 x.2.1]:=by
 apply List.ext_getElem?
 intro t
 by_cases ht:t < d.size * 2
 ·rw [flatMap_two _ t (by simp; omega),Array.getElem?_toList]
  have hsz:t < (flatK encV2 2 d).size:=by rw [size_flatK]; exact ht
  rw [Array.getElem?_eq_getElem hsz,← getElem!_pos (flatK encV2 2 d) t hsz,get_flatK _ _ _ _ ht]
  have hq:t / 2 < d.size:=by omega
  rw [getElem!_pos d (t / 2) hq]
  simp only [List.getElem_map,Array.getElem_toList]
  have hm:t % 2 = 0 ∨ t % 2 = 1:=by omega
  rcases hm with hm | hm <;> rw [hm] <;> rfl
 ·rw [List.getElem?_eq_none (by rw [Array.length_toList,size_flatK]; omega),List.getElem?_eq_none (by rw [flatMap_len]; simp; omega)]
theorem distinct_ne:∀ {l:List VX},distinctV l = true→∀ x∈l,∀ y∈l,x.1 = y.1→x = y
 | [],_,x,hx,_,_,_=>nomatch hx
 | z :: l,h,x,hx,y,hy,e=>by
  simp only [distinctV,Bool.and_eq_true,List.all_eq_true,Bool.not_eq_true',decide_eq_false_iff_not] at h
  rcases List.mem_cons.1 hx with h1 | h1 <;> rcases List.mem_cons.1 hy with h2 | h2
  ·rw [h1,h2]
  ·exact absurd (by rw [← h1,e]) (h.1 y h2)
  ·exact absurd (by rw [← h2,e]) (h.1 x h1)
  ·exact distinct_ne h.2 x h1 y h2 e
theorem sortV_inpl:InOK Go.Proofs.Tryz.prog cfg 120 sortV_spec:=by
 intro g s tm tms w b (l:List VX) (y:List VX) vals hs hG (hb:find s.bxs b = some (.row (.pair (.int .i64) (.pair (.int .i64) .unit)) false l)) (hy:sortV l = some y) (hv:VsR g [.row b .whole,.fn 121 []] vals.toList)
 show Calls Go.Proofs.Tryz.prog 120 vals w fun e w'=>∃ g',e = .returned (.tuple #[])∧StR g' { s with bxs:=setB s.bxs b (.row (.pair (.int .i64) (.pair (.int .i64) .unit)) false y) } tm tms w'∧Tr g w g' w'
 obtain ⟨c,cs0,rfl,hc,hr⟩:=vsR_one hv
 obtain ⟨c2,cs1,rfl,hc2,hr2⟩:=vsR_one hr
 have hcs:cs1 = #[]:=by
  obtain ⟨l0⟩:=cs1
  cases l0 with
  | nil=>rfl
  | cons a l0=>exact hr2.elim
 subst hcs
 have hf:c2 = .func (.func 121) #[] #[]:=by
  obtain ⟨vs,e1,e2⟩:=hc2
  simp only [List.cons.injEq,and_true] at e1
  have:vs = #[]:=by
   obtain ⟨l0⟩:=vs
   cases l0 with
   | nil=>rfl
   | cons a l0=>exact e2.elim
  rw [e1,this]
 subst hf
 show Calls Go.Proofs.Tryz.prog 120 #[c,.func (.func 121) #[] #[]] w _
 unfold sortV at hy
 cases hlim:!l.isEmpty && distinctV l && smallV l && decide (l.length≤1073741824) with
 | false=>rw [hlim] at hy; cases hy
 | true =>
  rw [hlim,cond_true,Option.some.injEq] at hy
  simp only [Bool.and_eq_true,decide_eq_true_eq] at hlim
  obtain ⟨⟨⟨hne,hdis⟩,hsm⟩,hlim⟩:=hlim
  have hsm':∀ x∈l,-4611686018427387904≤x.1∧x.1≤4611686018427387903:=by
   intro x hx
   have:=List.all_eq_true.1 hsm x hx
   simpa using this
  let d:Array SV:=(l.attach.map fun x=>⟨x.1,hsm' x.1 x.2⟩).toArray
  have hd:d.toList.map (·.1) = l:=by
   show (l.attach.map _).map _ = l
   rw [List.map_map]
   exact List.attach_map_subtype_val l
  have hds:d.size = l.length:=by rw [← hd]; simp
  have eg:∀ args w,(callFunc 121 args).run Go.Proofs.Tryz.prog w = .ok (.enter 121 args) w:=fun args w=>run_callFunc (enter_fun Go.Proofs.Tryz.func121 (by kernel_rfl)) args w
  have aE:∀ w,(isAgg (Tryz.laysV_ren.t 24)).run Go.Proofs.Tryz.prog w = .ok true w:=fun w=>Tryz.isAgg51 w
  have zE:∀ w,(Go.sizeOf (Tryz.laysV_ren.t 24)).run Go.Proofs.Tryz.prog w = .ok 2 w:=fun w=>Tryz.sizeOf51 w
  have h1:∀ x,∀ v∈encV2 x,v.oneCell' = true:=by
   intro x v hv
   simp only [encV2,List.mem_cons,List.not_mem_nil,or_false] at hv
   rcases hv with rfl | rfl <;> rfl
  rcases row_arg hs hb hc with ⟨rfl,p,cap,rfl⟩ | ⟨gb,blk,cells,cs,e1,e2,e3,rfl,e4,e5,e6,e7,e8,e9⟩
  ·cases hne
  ·have hcs:=elemsV_eq e7
   have hfl:(flatK encV2 2 d).toList = cs:=by rw [flatV,hd,hcs]
   have hH:HoldsK encV2 2 w blk gb.off d:=by
    have h:=blkIs_holds (vals:=(flatK encV2 2 d).toList) e4 (by rw [hfl]; exact e8)
    have h2:Holds id w blk gb.off (flatK encV2 2 d):=by simpa using h
    exact h2
   have hcall:=AnyQ.slices_SortFunc Tryz.laysV 2 aE zE encV2 (fun _=>rfl) h1 cfV swoV 121 #[] blk gb.off gb.cap d w eg (cmpV w blk gb.off d.size) hH e9 (by rw [hds]; omega)
   rw [hds] at hcall
   refine Calls.mono hcall ?_
   rintro e w' ⟨rfl,d',n,os,hp,hso,rfl⟩
   refine ⟨g,rfl,?_⟩
   have hsize:d'.size = d.size:=hp.1
   have hperm:d'.toList.Perm d.toList:=by
    have:=hp.2.2
    rw [← hds] at this
    rwa [Array.extract_size,← hsize,Array.extract_size] at this
   have hyy:d'.toList.map (·.1) = y:=by
    rw [← hy]
    have hpm:(d'.toList.map (·.1)).Perm l:=by rw [← hd]; exact hperm.map _
    refine List.Perm.eq_of_pairwise (le:=fun x y:VX=>leV x y = true) ?_ ?_ ?_ ?_
    ·intro a b ha hb' h3 h4
     simp only [leV,decide_eq_true_eq] at h3 h4
     exact distinct_ne hdis a (hpm.subset ha) b ((List.mergeSort_perm l leV).subset hb') (by omega)
    ·rw [List.pairwise_iff_getElem]
     intro i j hi hj hij
     simp only [List.length_map,Array.length_toList] at hi hj
     have:=hso i j (Nat.zero_le _) hij (by rw [← hds,← hsize]; exact hj)
     rw [getElem!_pos d' j hj,getElem!_pos d' i hi] at this
     rw [lt_iffF] at this
     simp only [List.getElem_map,Array.getElem_toList,leV,decide_eq_true_eq]
     omega
    ·exact List.pairwise_mergeSort (le:=leV) (fun a b c h1 h2=>by simp only [leV,decide_eq_true_eq] at *; omega) (fun a b=>by simp only [leV,Bool.or_eq_true,decide_eq_true_eq]; omega) l
    ·exact hpm.trans (List.mergeSort_perm l leV).symm
   have hlen:y.length = l.length:=by rw [← hy]; exact List.length_mergeSort l
   refine row_put hs hb e1 e2 e3 n (vals:=flatK encV2 2 d') ?_ hlen os
   rw [flatV,hyy]
   exact elemsV y
theorem sortV_enter:Enterable Go.Proofs.Tryz.prog 120:=enter_fun Go.Proofs.Tryz.func120 (by kernel_rfl)
end Go.V.G

namespace Go.V.G
open Go.Proofs
def f98_l2_head:Ann:={ env:=[(0,.ty (.sl tV)),(1,.cst (.fn 99 [])),(5,TI)],stk:=[[]] }
def f98_l2_outs:List (Ex × Ann):=[((.exit 0),{ env:=[],stk:=[[]] }),(.ret,{ env:=[(4,.ty .bool)],stk:=[[]] })]
def f98_l2 (t0:(List Vx)):Nat→Int→Option (outDen f98_l2_outs)
 | 0,_=>none
 | k + 1,t5 =>
 bif (decide (t5 < (t0.length:Int))) then
 bif (inR (IntKind.wrap .i64 (t5 - (1:Int))) t0.length) then
 let v1:Int:=(at_ tV t0 (IntKind.wrap .i64 (t5 - (1:Int)))).1
 bif (inR t5 t0.length) then
 let v2:Int:=(at_ tV t0 t5).1
 bif (decide (v1 ≥ v2)) then
 some (.inr ((false,()),((),()),()))
 else
 f98_l2 t0 k (IntKind.wrap .i64 (t5 + 1))
 else none
 else none
 else
 some (.inl ((),((),()),()))
def f98_l2_n (n:Nat) (x:f98_l2_head.den):=f98_l2 x.1.1 n x.1.2.1
def f98_l2_spec:LSpec:={ head:=f98_l2_head,outs:=f98_l2_outs,fn:=fun x=>f98_l2_n (((x.1.1.length:Int) - x.1.2.1).toNat + 1) x }
abbrev f98_res:List Sh:=[.ty .bool]
abbrev f98_outs:List (Nat × BSh):=[]
def f98 (t0:(List Vx)):Option (shDen f98_res × bxsDen f98_outs) :=
 (f98_l2 t0 (((t0.length:Int) - (1:Int)).toNat + 1) (1:Int)).bind fun o3 =>
 Sum.elim (fun o4 =>
 some ((true,()),())) (fun o5 =>
 let u6:Bool:=o5.1.1
 some ((u6,()),())) o3
def f98_spec:CSpec:={ args:=[(0,.ty (.sl tV)),(1,.cst (.fn 99 []))],ins:=[],res:=f98_res,outs:=f98_outs,fn:=fun x=>f98 x.1.1 }
noncomputable def f98_code:Code:=Tryz.f98.body.getD .skip
noncomputable def f98_env:Env0:={ C:=cfg,P:=[],L:=[(⟨12,0,98,2⟩,f98_l2_spec)],F:=[(98,Tryz.f98),(99,Tryz.f99)],I:=[],tot:=[(98,[4])] }
theorem f98_l2_ok:LoopOK f98_env 12 98 0 (loopAt f98_code 2) f98_l2_spec :=
 loopOK_of (by kernel_rfl) f98_l2_n (fun x o h=>⟨_,h⟩) (fun x=>by kernel_rfl) (fun n x=>by kernel_rfl)
theorem f98_run (x:envDen (f98_spec).args × bxsDen (f98_spec).ins):runS f98_env 98 Tryz.f98 f98_code (f98_spec) x = (f98_spec).fn x:=by kernel_rfl
theorem f98_enter:Enterable Tryz.prog 98:=enter_fun Tryz.func98 (by kernel_rfl)
theorem f98_envOK:EnvOK Tryz.prog f98_env:=envOK_of cds (by kernel_rfl) cfg_ok trivial trivial ⟨⟨Tryz.func98,by kernel_rfl⟩,⟨Tryz.func99,by kernel_rfl⟩,trivial⟩ ⟨⟨Tryz.f98,f98_code,rfl,rfl,f98_l2_ok⟩,trivial⟩ trivial trivial
theorem f98_call:CallOK Tryz.prog cfg 98 f98_spec:=call_of_run f98_envOK (fn:=Tryz.f98) (c:=f98_code) rfl rfl f98_spec (by kernel_rfl) (fun x _ h=>(f98_run x).trans h)
def f100_l2_head:Ann:={ env:=[(0,.ty (.sl tE)),(1,.cst (.fn 101 [])),(5,TI)],stk:=[[]] }
def f100_l2_outs:List (Ex × Ann):=[((.exit 0),{ env:=[],stk:=[[]] }),(.ret,{ env:=[(4,.ty .bool)],stk:=[[]] })]
def f100_l2 (t0:(List Ed)):Nat→Int→Option (outDen f100_l2_outs)
 | 0,_=>none
 | k + 1,t5 =>
 bif (decide (t5 < (t0.length:Int))) then
 bif (inR (IntKind.wrap .i64 (t5 - (1:Int))) t0.length) then
 let v1:Int:=(at_ tE t0 (IntKind.wrap .i64 (t5 - (1:Int)))).1
 bif (inR t5 t0.length) then
 let v2:Int:=(at_ tE t0 t5).1
 bif (decide (v1 ≥ v2)) then
 some (.inr ((false,()),((),()),()))
 else
 f100_l2 t0 k (IntKind.wrap .i64 (t5 + 1))
 else none
 else none
 else
 some (.inl ((),((),()),()))
def f100_l2_n (n:Nat) (x:f100_l2_head.den):=f100_l2 x.1.1 n x.1.2.1
def f100_l2_spec:LSpec:={ head:=f100_l2_head,outs:=f100_l2_outs,fn:=fun x=>f100_l2_n (((x.1.1.length:Int) - x.1.2.1).toNat + 1) x }
abbrev f100_res:List Sh:=[.ty .bool]
abbrev f100_outs:List (Nat × BSh):=[]
def f100 (t0:(List Ed)):Option (shDen f100_res × bxsDen f100_outs) :=
 (f100_l2 t0 (((t0.length:Int) - (1:Int)).toNat + 1) (1:Int)).bind fun o3 =>
 Sum.elim (fun o4 =>
 some ((true,()),())) (fun o5 =>
 let u6:Bool:=o5.1.1
 some ((u6,()),())) o3
def f100_spec:CSpec:={ args:=[(0,.ty (.sl tE)),(1,.cst (.fn 101 []))],ins:=[],res:=f100_res,outs:=f100_outs,fn:=fun x=>f100 x.1.1 }
noncomputable def f100_code:Code:=Tryz.f100.body.getD .skip
noncomputable def f100_env:Env0:={ C:=cfg,P:=[],L:=[(⟨12,0,100,2⟩,f100_l2_spec)],F:=[(100,Tryz.f100),(101,Tryz.f101)],I:=[],tot:=[(100,[4])] }
theorem f100_l2_ok:LoopOK f100_env 12 100 0 (loopAt f100_code 2) f100_l2_spec :=
 loopOK_of (by kernel_rfl) f100_l2_n (fun x o h=>⟨_,h⟩) (fun x=>by kernel_rfl) (fun n x=>by kernel_rfl)
theorem f100_run (x:envDen (f100_spec).args × bxsDen (f100_spec).ins):runS f100_env 100 Tryz.f100 f100_code (f100_spec) x = (f100_spec).fn x:=by kernel_rfl
theorem f100_enter:Enterable Tryz.prog 100:=enter_fun Tryz.func100 (by kernel_rfl)
theorem f100_envOK:EnvOK Tryz.prog f100_env:=envOK_of cds (by kernel_rfl) cfg_ok trivial trivial ⟨⟨Tryz.func100,by kernel_rfl⟩,⟨Tryz.func101,by kernel_rfl⟩,trivial⟩ ⟨⟨Tryz.f100,f100_code,rfl,rfl,f100_l2_ok⟩,trivial⟩ trivial trivial
theorem f100_call:CallOK Tryz.prog cfg 100 f100_spec:=call_of_run f100_envOK (fn:=Tryz.f100) (c:=f100_code) rfl rfl f100_spec (by kernel_rfl) (fun x _ h=>(f100_run x).trans h)
def f199 (a0:Int) (a1:Int):Option (Int × Unit) :=
 bif (decide (a0 ≠ a0)) then
 bif (decide (a1 ≠ a1)) then
 some ((0:Int),())
 else
 some ((-1:Int),())
 else
 bif (decide (a1 ≠ a1)) then
 some ((1:Int),())
 else
 bif (decide (a0 < a1)) then
 some ((-1:Int),())
 else
 bif (decide (a0 > a1)) then
 some ((1:Int),())
 else
 some ((0:Int),())
def f199_spec:PSpec:={ args:=[tI,tI],res:=[tI],fn:=fun x=>f199 x.1 x.2.1 }
noncomputable def f199_code:Code:=Tryz.f199.body.getD .skip
noncomputable def f199_env:Env0:={ C:=cfg,P:=[],L:=[],F:=[(199,Tryz.f199),(220,Tryz.f220)] }
theorem f199_run (x:tysDen (f199_spec).args):runF f199_env 199 Tryz.f199 f199_code (f199_spec).args (f199_spec).res x = f199_spec.fn x:=by kernel_rfl
theorem f199_enter:Enterable Tryz.prog 199:=enter_fun Tryz.func199 (by kernel_rfl)
theorem f199_envOK:EnvOK Tryz.prog f199_env:=envOK_of cds (by kernel_rfl) cfg_ok trivial trivial ⟨⟨Tryz.func199,by kernel_rfl⟩,⟨Tryz.func220,by kernel_rfl⟩,trivial⟩ trivial trivial trivial
theorem f199_pure:PureOK Tryz.prog cfg 199 f199_spec:=pure_of_run f199_envOK (fn:=Tryz.f199) (c:=f199_code) rfl rfl f199_spec (fun x _ h=>(f199_run x).trans h)
def f202_l3x_head:Ann:={ env:=[(0,.ty (.sl tV)),(1,TI),(2,.cst (.fn 203 [])),(8,TI),(9,TI),(10,TI)],stk:=[[(4,TI),(5,.ty .bool)],[(4,.ty .bool)],[(0,cP 17)]],bxs:=[(17,.var [.ty (.sl tV),.ty (.sl tE),.ty (.sl tI)])] }
def f202_l3x_outs:List (Ex × Ann):=[((.exit 0),{ env:=[(0,.ty (.sl tV)),(1,TI),(2,.cst (.fn 203 [])),(8,TI),(9,TI)],stk:=[[(4,TI),(5,.ty .bool)],[(4,.ty .bool)],[(0,cP 17)]],bxs:=[(17,.var [.ty (.sl tV),.ty (.sl tE),.ty (.sl tI)])] })]
def f202_l3x (t0:(List Vx)) (t1:Int) (t8:Int) (k0t4:Int) (k0t5:Bool) (k1t4:Bool) (b17g0:(List Vx)) (b17g1:(List Ed)) (b17g2:(List Int)):Nat→Int→Int→Option (outDen f202_l3x_outs)
 | 0,_,_=>none
 | k + 1,t9,t10 =>
 bif (decide (t9 < t10)) then
 let v1:Int:=(IntKind.wrap .u64 (IntKind.wrap .i64 (t9 + t10)))
 let v2:Int:=(IntKind.wrap .i64 (shrV .u64 v1 (1:Int)))
 bif (inR v2 t0.length) then
 let v3:Int:=(at_ tV t0 v2).1
 (f199 v3 t1).bind fun y4 =>
 bif (decide (y4.1 < (0:Int))) then
 f202_l3x t0 t1 t8 k0t4 k0t5 k1t4 b17g0 b17g1 b17g2 k (IntKind.wrap .i64 (v2 + 1)) t10
 else
 f202_l3x t0 t1 t8 k0t4 k0t5 k1t4 b17g0 b17g1 b17g2 k t9 v2
 else none
 else
 some ((t0,t1,t8,t9,()),((k0t4,k0t5,()),(k1t4,()),(),()),((b17g0,b17g1,b17g2,()),()))
def f202_l3x_n (n:Nat) (x:f202_l3x_head.den):=f202_l3x x.1.1 x.1.2.1 x.1.2.2.1 x.2.1.1.1 x.2.1.1.2.1 x.2.1.2.1.1 x.2.2.1.1 x.2.2.1.2.1 x.2.2.1.2.2.1 n x.1.2.2.2.1 x.1.2.2.2.2.1
def f202_l3x_spec:LSpec:={ head:=f202_l3x_head,outs:=f202_l3x_outs,fn:=fun x=>f202_l3x_n ((x.1.2.2.2.2.1 - x.1.2.2.2.1).toNat + 1) x }
abbrev f104_res:List Sh:=[.ty .bool]
abbrev f104_outs:List (Nat × BSh):=[(17,.var [.ty (.sl tV),.ty (.sl tE),.ty (.sl tI)])]
def f104 (t1:Int) (b17g0:(List Vx)) (b17g1:(List Ed)) (b17g2:(List Int)):Option (shDen f104_res × bxsDen f104_outs) :=
 (f202_l3x b17g0 t1 (b17g0.length:Int) (0:Int) false false b17g0 b17g1 b17g2 (((b17g0.length:Int) - (0:Int)).toNat + 1) (0:Int) (b17g0.length:Int)).bind fun o5 =>
 let u6:(List Vx):=o5.1.1
 let u7:Int:=o5.1.2.1
 let u8:Int:=o5.1.2.2.1
 let u9:Int:=o5.1.2.2.2.1
 let u13:(List Vx):=o5.2.2.1.1
 let u14:(List Ed):=o5.2.2.1.2.1
 let u15:(List Int):=o5.2.2.1.2.2.1
 bif (decide (u9 < u8)) then
 bif (inR u9 u6.length) then
 let v16:Int:=(at_ tV u6 u9).1
 (f199 v16 u7).bind fun y17 =>
 some (((decide (y17.1 = (0:Int))),()),((u13,u14,u15,()),()))
 else none
 else
 some ((false,()),((u13,u14,u15,()),()))
def f104_spec:CSpec:={ args:=[(0,cP 17),(1,TI)],ins:=[(17,.var [.ty (.sl tV),.ty (.sl tE),.ty (.sl tI)])],res:=f104_res,outs:=f104_outs,fn:=fun x=>f104 x.1.1 x.2.1.1 x.2.1.2.1 x.2.1.2.2.1 }
noncomputable def f104_code:Code:=Tryz.f104.body.getD .skip
noncomputable def f104_code_202:Code:=Tryz.f202.body.getD .skip
noncomputable def f104_env:Env0:={ C:=cfg,P:=[(199,f199_spec)],L:=[(⟨10,10012000,202,3⟩,f202_l3x_spec)],F:=[(104,Tryz.f104),(164,Tryz.f164),(202,Tryz.f202),(203,Tryz.f203)] }
theorem f202_l3x_ok:LoopOK f104_env 10 202 10012000 (loopAt f104_code_202 3) f202_l3x_spec :=
 loopOK_of (by kernel_rfl) f202_l3x_n (fun x o h=>⟨_,h⟩) (fun x=>by kernel_rfl) (fun n x=>by kernel_rfl)
theorem f104_run (x:envDen (f104_spec).args × bxsDen (f104_spec).ins):runS f104_env 104 Tryz.f104 f104_code (f104_spec) x = (f104_spec).fn x:=by kernel_rfl
theorem f104_enter:Enterable Tryz.prog 104:=enter_fun Tryz.func104 (by kernel_rfl)
theorem f104_envOK:EnvOK Tryz.prog f104_env:=envOK_of cds (by kernel_rfl) cfg_ok ⟨⟨f199_pure,f199_enter⟩,trivial⟩ trivial ⟨⟨Tryz.func104,by kernel_rfl⟩,⟨Tryz.func164,by kernel_rfl⟩,⟨Tryz.func202,by kernel_rfl⟩,⟨Tryz.func203,by kernel_rfl⟩,trivial⟩ ⟨⟨Tryz.f202,f104_code_202,rfl,rfl,f202_l3x_ok⟩,trivial⟩ trivial trivial
theorem f104_call:CallOK Tryz.prog cfg 104 f104_spec:=call_of_run f104_envOK (fn:=Tryz.f104) (c:=f104_code) rfl rfl f104_spec (by kernel_rfl) (fun x _ h=>(f104_run x).trans h)
def f115_l2_b7000_head:Ann:={ env:=[(0,.ty (.sl tV)),(1,.cst (.fn 106 [])),(7,TI),(8,TI)],stk:=[[(4,.ty .bool)],[]] }
def f115_l2_b7000_outs:List (Ex × Ann):=[((.exit 0),{ env:=[],stk:=[[(4,.ty .bool)],[]] }),(.ret,{ env:=[(4,TI)],stk:=[[(4,.ty .bool)],[]] })]
def f115_l2_b7000 (t0:(List Vx)) (t7:Int) (k0t4:Bool):Nat→Int→Option (outDen f115_l2_b7000_outs)
 | 0,_=>none
 | k + 1,t8 =>
 bif (decide (t8 < t7)) then
 bif (inR t8 t0.length) then
 let v1:Int:=(at_ tV t0 t8).1
 bif (decide ((0:Int)≤v1)) then
 bif (decide (v1≤(23:Int))) then
 let v2:Int:=(at_ tV t0 t8).2.1
 bif (decide ((0:Int)≤v2)) then
 bif (!(decide (v2≤(3:Int)))) then
 some (.inr ((t8,()),((k0t4,()),(),()),()))
 else
 f115_l2_b7000 t0 t7 k0t4 k (IntKind.wrap .i64 (t8 + 1))
 else
 some (.inr ((t8,()),((k0t4,()),(),()),()))
 else
 some (.inr ((t8,()),((k0t4,()),(),()),()))
 else
 some (.inr ((t8,()),((k0t4,()),(),()),()))
 else none
 else
 some (.inl ((),((k0t4,()),(),()),()))
def f115_l2_b7000_n (n:Nat) (x:f115_l2_b7000_head.den):=f115_l2_b7000 x.1.1 x.1.2.1 x.2.1.1.1 n x.1.2.2.1
def f115_l2_b7000_spec:LSpec:={ head:=f115_l2_b7000_head,outs:=f115_l2_b7000_outs,fn:=fun x=>f115_l2_b7000_n ((x.1.2.1 - x.1.2.2.1).toNat + 1) x }
abbrev f105_res:List Sh:=[.ty .bool]
abbrev f105_outs:List (Nat × BSh):=[]
def f105 (t0:(List Vx)):Option (shDen f105_res × bxsDen f105_outs) :=
 (f115_l2_b7000 t0 (t0.length:Int) false (((t0.length:Int) - (0:Int)).toNat + 1) (0:Int)).bind fun o3 =>
 Sum.elim (fun o4 =>
 some ((false,()),())) (fun o5 =>
 let u7:Int:=o5.1.1
 some (((decide (u7 ≥ (0:Int))),()),())) o3
def f105_spec:CSpec:={ args:=[(0,.ty (.sl tV)),(1,.cst (.fn 106 []))],ins:=[],res:=f105_res,outs:=f105_outs,fn:=fun x=>f105 x.1.1 }
noncomputable def f105_code:Code:=Tryz.f105.body.getD .skip
noncomputable def f105_code_115:Code:=Tryz.f115.body.getD .skip
noncomputable def f105_env:Env0:={ C:=cfg,P:=[],L:=[(⟨11,7000,115,2⟩,f115_l2_b7000_spec)],F:=[(105,Tryz.f105),(106,Tryz.f106),(107,Tryz.f107),(115,Tryz.f115),(155,Tryz.f155)] }
theorem f115_l2_b7000_ok:LoopOK f105_env 11 115 7000 (loopAt f105_code_115 2) f115_l2_b7000_spec :=
 loopOK_of (by kernel_rfl) f115_l2_b7000_n (fun x o h=>⟨_,h⟩) (fun x=>by kernel_rfl) (fun n x=>by kernel_rfl)
theorem f105_run (x:envDen (f105_spec).args × bxsDen (f105_spec).ins):runS f105_env 105 Tryz.f105 f105_code (f105_spec) x = (f105_spec).fn x:=by kernel_rfl
theorem f105_enter:Enterable Tryz.prog 105:=enter_fun Tryz.func105 (by kernel_rfl)
theorem f105_envOK:EnvOK Tryz.prog f105_env:=envOK_of cds (by kernel_rfl) cfg_ok trivial trivial ⟨⟨Tryz.func105,by kernel_rfl⟩,⟨Tryz.func106,by kernel_rfl⟩,⟨Tryz.func107,by kernel_rfl⟩,⟨Tryz.func115,by kernel_rfl⟩,⟨Tryz.func155,by kernel_rfl⟩,trivial⟩ ⟨⟨Tryz.f115,f105_code_115,rfl,rfl,f115_l2_b7000_ok⟩,trivial⟩ trivial trivial
theorem f105_call:CallOK Tryz.prog cfg 105 f105_spec:=call_of_run f105_envOK (fn:=Tryz.f105) (c:=f105_code) rfl rfl f105_spec (by kernel_rfl) (fun x _ h=>(f105_run x).trans h)
def f161_l2_head:Ann:={ env:=[(0,.ty (.sl tI)),(1,.cst (.fn 162 [])),(5,TI)],stk:=[[]] }
def f161_l2_outs:List (Ex × Ann):=[((.exit 0),{ env:=[],stk:=[[]] }),(.ret,{ env:=[(4,.ty .bool)],stk:=[[]] })]
def f161_l2 (t0:(List Int)):Nat→Int→Option (outDen f161_l2_outs)
 | 0,_=>none
 | k + 1,t5 =>
 bif (decide (t5 < (t0.length:Int))) then
 bif (inR (IntKind.wrap .i64 (t5 - (1:Int))) t0.length) then
 let v1:Int:=(at_ tI t0 (IntKind.wrap .i64 (t5 - (1:Int))))
 bif (inR t5 t0.length) then
 bif (decide (v1 ≥ (at_ tI t0 t5))) then
 some (.inr ((false,()),((),()),()))
 else
 f161_l2 t0 k (IntKind.wrap .i64 (t5 + 1))
 else none
 else none
 else
 some (.inl ((),((),()),()))
def f161_l2_n (n:Nat) (x:f161_l2_head.den):=f161_l2 x.1.1 n x.1.2.1
def f161_l2_spec:LSpec:={ head:=f161_l2_head,outs:=f161_l2_outs,fn:=fun x=>f161_l2_n (((x.1.1.length:Int) - x.1.2.1).toNat + 1) x }
abbrev f161_res:List Sh:=[.ty .bool]
abbrev f161_outs:List (Nat × BSh):=[]
def f161 (t0:(List Int)):Option (shDen f161_res × bxsDen f161_outs) :=
 (f161_l2 t0 (((t0.length:Int) - (1:Int)).toNat + 1) (1:Int)).bind fun o2 =>
 Sum.elim (fun o3 =>
 some ((true,()),())) (fun o4 =>
 let u5:Bool:=o4.1.1
 some ((u5,()),())) o2
def f161_spec:CSpec:={ args:=[(0,.ty (.sl tI)),(1,.cst (.fn 162 []))],ins:=[],res:=f161_res,outs:=f161_outs,fn:=fun x=>f161 x.1.1 }
noncomputable def f161_code:Code:=Tryz.f161.body.getD .skip
noncomputable def f161_env:Env0:={ C:=cfg,P:=[],L:=[(⟨12,0,161,2⟩,f161_l2_spec)],F:=[(161,Tryz.f161),(162,Tryz.f162)],I:=[],tot:=[(161,[4])] }
theorem f161_l2_ok:LoopOK f161_env 12 161 0 (loopAt f161_code 2) f161_l2_spec :=
 loopOK_of (by kernel_rfl) f161_l2_n (fun x o h=>⟨_,h⟩) (fun x=>by kernel_rfl) (fun n x=>by kernel_rfl)
theorem f161_run (x:envDen (f161_spec).args × bxsDen (f161_spec).ins):runS f161_env 161 Tryz.f161 f161_code (f161_spec) x = (f161_spec).fn x:=by kernel_rfl
theorem f161_enter:Enterable Tryz.prog 161:=enter_fun Tryz.func161 (by kernel_rfl)
theorem f161_envOK:EnvOK Tryz.prog f161_env:=envOK_of cds (by kernel_rfl) cfg_ok trivial trivial ⟨⟨Tryz.func161,by kernel_rfl⟩,⟨Tryz.func162,by kernel_rfl⟩,trivial⟩ ⟨⟨Tryz.f161,f161_code,rfl,rfl,f161_l2_ok⟩,trivial⟩ trivial trivial
theorem f161_call:CallOK Tryz.prog cfg 161 f161_spec:=call_of_run f161_envOK (fn:=Tryz.f161) (c:=f161_code) rfl rfl f161_spec (by kernel_rfl) (fun x _ h=>(f161_run x).trans h)
def f125_l2x_head:Ann:={ env:=[(0,.ty (.sl tI)),(1,.cst (.fn 167 [(.ptr 1 0 [])])),(7,TI),(8,TI)],stk:=[[(4,.ty .bool)],[(2,.ty .bool),(18,.ty .bool)],[(0,cP 17)]],bxs:=[(1,.var [cP 17]),(17,.var [.ty (.sl tV),.ty (.sl tE),.ty (.sl tI)])] }
def f125_l2x_outs:List (Ex × Ann):=[((.exit 0),{ env:=[],stk:=[[(4,.ty .bool)],[(2,.ty .bool),(18,.ty .bool)],[(0,cP 17)]],bxs:=[(17,.var [.ty (.sl tV),.ty (.sl tE),.ty (.sl tI)])] }),(.ret,{ env:=[(4,TI)],stk:=[[(4,.ty .bool)],[(2,.ty .bool),(18,.ty .bool)],[(0,cP 17)]],bxs:=[(17,.var [.ty (.sl tV),.ty (.sl tE),.ty (.sl tI)])] })]
def f125_l2x (t0:(List Int)) (t7:Int) (k0t4:Bool) (k1t2:Bool) (k1t18:Bool):Nat→Int→(List Vx)→(List Ed)→(List Int)→Option (outDen f125_l2x_outs)
 | 0,_,_,_,_=>none
 | k + 1,t8,b17g0,b17g1,b17g2 =>
 bif (decide (t8 < t7)) then
 bif (inR t8 t0.length) then
 (f104 (at_ tI t0 t8) b17g0 b17g1 b17g2).bind fun y4 =>
 let u5:Bool:=y4.1.1
 let u6:(List Vx):=y4.2.1.1
 let u7:(List Ed):=y4.2.1.2.1
 let u8:(List Int):=y4.2.1.2.2.1
 bif (!u5) then
 some (.inr ((t8,()),((k0t4,()),(k1t2,k1t18,()),(),()),((u6,u7,u8,()),())))
 else
 f125_l2x t0 t7 k0t4 k1t2 k1t18 k (IntKind.wrap .i64 (t8 + 1)) u6 u7 u8
 else none
 else
 some (.inl ((),((k0t4,()),(k1t2,k1t18,()),(),()),((b17g0,b17g1,b17g2,()),())))
def f125_l2x_n (n:Nat) (x:f125_l2x_head.den):=f125_l2x x.1.1 x.1.2.1 x.2.1.1.1 x.2.1.2.1.1 x.2.1.2.1.2.1 n x.1.2.2.1 x.2.2.2.1.1 x.2.2.2.1.2.1 x.2.2.2.1.2.2.1
def f125_l2x_spec:LSpec:={ head:=f125_l2x_head,outs:=f125_l2x_outs,fn:=fun x=>f125_l2x_n ((x.1.2.1 - x.1.2.2.1).toNat + 1) x }
abbrev f108_res:List Sh:=[.ty .bool]
abbrev f108_outs:List (Nat × BSh):=[(17,.var [.ty (.sl tV),.ty (.sl tE),.ty (.sl tI)])]
def f108 (b17g0:(List Vx)) (b17g1:(List Ed)) (b17g2:(List Int)):Option (shDen f108_res × bxsDen f108_outs) :=
 let v1:Bool:=(decide ((b17g2.length:Int)≤(3:Int)))
 bif v1 then
 (f161 b17g2).bind fun y2 =>
 let u3:Bool:=y2.1.1
 bif u3 then
 (f125_l2x b17g2 (b17g2.length:Int) false false true (((b17g2.length:Int) - (0:Int)).toNat + 1) (0:Int) b17g0 b17g1 b17g2).bind fun o9 =>
 Sum.elim (fun o10 =>
 let u14:Bool:=o10.2.1.2.1.2.1
 let u15:(List Vx):=o10.2.2.1.1
 let u16:(List Ed):=o10.2.2.1.2.1
 let u17:(List Int):=o10.2.2.1.2.2.1
 bif u14 then
 some ((true,()),((u15,u16,u17,()),()))
 else
 some ((false,()),((u15,u16,u17,()),()))) (fun o11 =>
 let u18:Int:=o11.1.1
 let u21:Bool:=o11.2.1.2.1.2.1
 let u22:(List Vx):=o11.2.2.1.1
 let u23:(List Ed):=o11.2.2.1.2.1
 let u24:(List Int):=o11.2.2.1.2.2.1
 bif u21 then
 some (((!(decide (u18 ≥ (0:Int)))),()),((u22,u23,u24,()),()))
 else
 some ((false,()),((u22,u23,u24,()),()))) o9
 else
 some ((false,()),((b17g0,b17g1,b17g2,()),()))
 else
 some ((false,()),((b17g0,b17g1,b17g2,()),()))
def f108_spec:CSpec:={ args:=[(0,cP 17)],ins:=[(17,.var [.ty (.sl tV),.ty (.sl tE),.ty (.sl tI)])],res:=f108_res,outs:=f108_outs,fn:=fun x=>f108 x.2.1.1 x.2.1.2.1 x.2.1.2.2.1 }
noncomputable def f108_code:Code:=Tryz.f108.body.getD .skip
noncomputable def f108_code_125:Code:=Tryz.f125.body.getD .skip
noncomputable def f108_env:Env0:={ C:=cfg,P:=[],L:=[(⟨10,25007000,125,2⟩,f125_l2x_spec)],F:=[(108,Tryz.f108),(125,Tryz.f125),(166,Tryz.f166),(167,Tryz.f167)],S:=[(104,f104_spec),(161,f161_spec)] }
theorem f125_l2x_ok:LoopOK f108_env 10 125 25007000 (loopAt f108_code_125 2) f125_l2x_spec :=
 loopOK_of (by kernel_rfl) f125_l2x_n (fun x o h=>⟨_,h⟩) (fun x=>by kernel_rfl) (fun n x=>by kernel_rfl)
theorem f108_run (x:envDen (f108_spec).args × bxsDen (f108_spec).ins):runS f108_env 108 Tryz.f108 f108_code (f108_spec) x = (f108_spec).fn x:=by kernel_rfl
theorem f108_enter:Enterable Tryz.prog 108:=enter_fun Tryz.func108 (by kernel_rfl)
theorem f108_envOK:EnvOK Tryz.prog f108_env:=envOK_of cds (by kernel_rfl) cfg_ok trivial ⟨⟨f104_call,by kernel_rfl,f104_enter⟩,⟨f161_call,by kernel_rfl,f161_enter⟩,trivial⟩ ⟨⟨Tryz.func108,by kernel_rfl⟩,⟨Tryz.func125,by kernel_rfl⟩,⟨Tryz.func166,by kernel_rfl⟩,⟨Tryz.func167,by kernel_rfl⟩,trivial⟩ ⟨⟨Tryz.f125,f108_code_125,rfl,rfl,f125_l2x_ok⟩,trivial⟩ trivial trivial
theorem f108_call:CallOK Tryz.prog cfg 108 f108_spec:=call_of_run f108_envOK (fn:=Tryz.f108) (c:=f108_code) rfl rfl f108_spec (by kernel_rfl) (fun x _ h=>(f108_run x).trans h)
def f119_l2z_head:Ann:={ env:=[(0,.ty (.sl tE)),(1,.cst (.fn 102 [(.ptr 3 0 [])])),(7,TI),(8,TI)],stk:=[[(4,.ty .bool)],[(2,.ty .bool),(3,cP 3),(23,.ty .bool)]],bxs:=[(3,.var [cP 17]),(17,.var [.ty (.sl tV),.ty (.sl tE),.ty (.sl tI)])] }
def f119_l2z_outs:List (Ex × Ann):=[((.exit 0),{ env:=[],stk:=[[(4,.ty .bool)],[(2,.ty .bool),(3,cP 3),(23,.ty .bool)]],bxs:=[(3,.var [cP 17]),(17,.var [.ty (.sl tV),.ty (.sl tE),.ty (.sl tI)])] }),(.ret,{ env:=[(4,TI)],stk:=[[(4,.ty .bool)],[(2,.ty .bool),(3,cP 3),(23,.ty .bool)]],bxs:=[(3,.var [cP 17]),(17,.var [.ty (.sl tV),.ty (.sl tE),.ty (.sl tI)])] })]
def f119_l2z (t0:(List Ed)) (t7:Int) (k0t4:Bool) (k1t2:Bool) (k1t23:Bool):Nat→Int→(List Vx)→(List Ed)→(List Int)→Option (outDen f119_l2z_outs)
 | 0,_,_,_,_=>none
 | k + 1,t8,b17g0,b17g1,b17g2 =>
 bif (decide (t8 < t7)) then
 bif (inR t8 t0.length) then
 let v7:Int:=(at_ tE t0 t8).1
 bif (decide ((0:Int)≤v7)) then
 bif (decide (v7≤(39:Int))) then
 let v8:Int:=(at_ tE t0 t8).2.1
 bif (decide ((0:Int)≤v8)) then
 bif (decide (v8≤(23:Int))) then
 let v9:Int:=(at_ tE t0 t8).2.2.1
 bif (decide ((0:Int)≤v9)) then
 bif (decide (v9≤(23:Int))) then
 let v10:Int:=(at_ tE t0 t8).2.2.2.2.1
 bif (decide ((-1000:Int)≤v10)) then
 bif (decide (v10≤(1000:Int))) then
 let v11:Int:=(at_ tE t0 t8).2.2.2.2.2.1
 bif (decide ((0:Int)≤v11)) then
 bif (!(decide (v11≤(1000:Int)))) then
 some (.inr ((t8,()),((k0t4,()),(k1t2,k1t23,()),()),((),(b17g0,b17g1,b17g2,()),())))
 else
 let v12:Int:=(at_ tE t0 t8).2.1
 (f104 v12 b17g0 b17g1 b17g2).bind fun y13 =>
 let u14:Bool:=y13.1.1
 let u15:(List Vx):=y13.2.1.1
 let u16:(List Ed):=y13.2.1.2.1
 let u17:(List Int):=y13.2.1.2.2.1
 bif (!u14) then
 some (.inr ((t8,()),((k0t4,()),(k1t2,k1t23,()),()),((),(u15,u16,u17,()),())))
 else
 let v18:Int:=(at_ tE t0 t8).2.2.1
 (f104 v18 u15 u16 u17).bind fun y19 =>
 let u20:Bool:=y19.1.1
 let u21:(List Vx):=y19.2.1.1
 let u22:(List Ed):=y19.2.1.2.1
 let u23:(List Int):=y19.2.1.2.2.1
 bif (!u20) then
 some (.inr ((t8,()),((k0t4,()),(k1t2,k1t23,()),()),((),(u21,u22,u23,()),())))
 else
 f119_l2z t0 t7 k0t4 k1t2 k1t23 k (IntKind.wrap .i64 (t8 + 1)) u21 u22 u23
 else
 some (.inr ((t8,()),((k0t4,()),(k1t2,k1t23,()),()),((),(b17g0,b17g1,b17g2,()),())))
 else
 some (.inr ((t8,()),((k0t4,()),(k1t2,k1t23,()),()),((),(b17g0,b17g1,b17g2,()),())))
 else
 some (.inr ((t8,()),((k0t4,()),(k1t2,k1t23,()),()),((),(b17g0,b17g1,b17g2,()),())))
 else
 some (.inr ((t8,()),((k0t4,()),(k1t2,k1t23,()),()),((),(b17g0,b17g1,b17g2,()),())))
 else
 some (.inr ((t8,()),((k0t4,()),(k1t2,k1t23,()),()),((),(b17g0,b17g1,b17g2,()),())))
 else
 some (.inr ((t8,()),((k0t4,()),(k1t2,k1t23,()),()),((),(b17g0,b17g1,b17g2,()),())))
 else
 some (.inr ((t8,()),((k0t4,()),(k1t2,k1t23,()),()),((),(b17g0,b17g1,b17g2,()),())))
 else
 some (.inr ((t8,()),((k0t4,()),(k1t2,k1t23,()),()),((),(b17g0,b17g1,b17g2,()),())))
 else
 some (.inr ((t8,()),((k0t4,()),(k1t2,k1t23,()),()),((),(b17g0,b17g1,b17g2,()),())))
 else none
 else
 some (.inl ((),((k0t4,()),(k1t2,k1t23,()),()),((),(b17g0,b17g1,b17g2,()),())))
def f119_l2z_n (n:Nat) (x:f119_l2z_head.den):=f119_l2z x.1.1 x.1.2.1 x.2.1.1.1 x.2.1.2.1.1 x.2.1.2.1.2.1 n x.1.2.2.1 x.2.2.2.1.1 x.2.2.2.1.2.1 x.2.2.2.1.2.2.1
def f119_l2z_spec:LSpec:={ head:=f119_l2z_head,outs:=f119_l2z_outs,fn:=fun x=>f119_l2z_n ((x.1.2.1 - x.1.2.2.1).toNat + 1) x }
def f46 (a0:Gr):Option (Bool × Unit) :=
 (f98 a0.1).bind fun y1 =>
 let u2:Bool:=y1.1.1
 bif (!u2) then
 some (false,())
 else
 (f100 a0.2.1).bind fun y3 =>
 let u4:Bool:=y3.1.1
 bif (!u4) then
 some (false,())
 else
 (f105 a0.1).bind fun y5 =>
 let u6:Bool:=y5.1.1
 bif (!u6) then
 (f119_l2z a0.2.1 (a0.2.1.length:Int) false false true (((a0.2.1.length:Int) - (0:Int)).toNat + 1) (0:Int) a0.1 a0.2.1 a0.2.2.1).bind fun o24 =>
 Sum.elim (fun o25 =>
 let u29:Bool:=o25.2.1.2.1.2.1
 let u30:(List Vx):=o25.2.2.2.1.1
 let u31:(List Ed):=o25.2.2.2.1.2.1
 let u32:(List Int):=o25.2.2.2.1.2.2.1
 bif u29 then
 (f108 u30 u31 u32).bind fun y33 =>
 let u34:Bool:=y33.1.1
 let u35:(List Vx):=y33.2.1.1
 let u36:(List Ed):=y33.2.1.2.1
 let u37:(List Int):=y33.2.1.2.2.1
 some (u34,())
 else
 some (false,())) (fun o26 =>
 let u38:Int:=o26.1.1
 let u41:Bool:=o26.2.1.2.1.2.1
 let u42:(List Vx):=o26.2.2.2.1.1
 let u43:(List Ed):=o26.2.2.2.1.2.1
 let u44:(List Int):=o26.2.2.2.1.2.2.1
 bif u41 then
 bif (!(decide (u38 ≥ (0:Int)))) then
 (f108 u42 u43 u44).bind fun y45 =>
 let u46:Bool:=y45.1.1
 let u47:(List Vx):=y45.2.1.1
 let u48:(List Ed):=y45.2.1.2.1
 let u49:(List Int):=y45.2.1.2.2.1
 some (u46,())
 else
 some (false,())
 else
 some (false,())) o24
 else
 some (false,())
def f46_spec:PSpec:={ args:=[tG],res:=[.bool],fn:=fun x=>f46 x.1 }
noncomputable def f46_code:Code:=Tryz.f46.body.getD .skip
noncomputable def f46_code_119:Code:=Tryz.f119.body.getD .skip
noncomputable def f46_env:Env0:={ C:=cfg,P:=[],L:=[(⟨10,27007000,119,2⟩,f119_l2z_spec)],F:=[(46,Tryz.f46),(66,Tryz.f66),(102,Tryz.f102),(103,Tryz.f103),(119,Tryz.f119),(155,Tryz.f155)],S:=[(98,f98_spec),(100,f100_spec),(104,f104_spec),(105,f105_spec),(108,f108_spec)] }
theorem f119_l2z_ok:LoopOK f46_env 10 119 27007000 (loopAt f46_code_119 2) f119_l2z_spec :=
 loopOK_of (by kernel_rfl) f119_l2z_n (fun x o h=>⟨_,h⟩) (fun x=>by kernel_rfl) (fun n x=>by kernel_rfl)
theorem f46_run (x:tysDen (f46_spec).args):runF f46_env 46 Tryz.f46 f46_code (f46_spec).args (f46_spec).res x = f46_spec.fn x:=by kernel_rfl
theorem f46_enter:Enterable Tryz.prog 46:=enter_fun Tryz.func46 (by kernel_rfl)
theorem f46_envOK:EnvOK Tryz.prog f46_env:=envOK_of cds (by kernel_rfl) cfg_ok trivial ⟨⟨f98_call,by kernel_rfl,f98_enter⟩,⟨f100_call,by kernel_rfl,f100_enter⟩,⟨f104_call,by kernel_rfl,f104_enter⟩,⟨f105_call,by kernel_rfl,f105_enter⟩,⟨f108_call,by kernel_rfl,f108_enter⟩,trivial⟩ ⟨⟨Tryz.func46,by kernel_rfl⟩,⟨Tryz.func66,by kernel_rfl⟩,⟨Tryz.func102,by kernel_rfl⟩,⟨Tryz.func103,by kernel_rfl⟩,⟨Tryz.func119,by kernel_rfl⟩,⟨Tryz.func155,by kernel_rfl⟩,trivial⟩ ⟨⟨Tryz.f119,f46_code_119,rfl,rfl,f119_l2z_ok⟩,trivial⟩ trivial trivial
theorem f46_pure:PureOK Tryz.prog cfg 46 f46_spec:=pure_of_run f46_envOK (fn:=Tryz.f46) (c:=f46_code) rfl rfl f46_spec (fun x _ h=>(f46_run x).trans h)
def f79_l2_head:Ann:={ env:=[(1,TI),(4,.cst (.row 27 .whole)),(8,.ty (.sl tE)),(9,TI),(10,TI)],bxs:=[(27,.row tE false)] }
def f79_l2_outs:List (Ex × Ann):=[((.exit 0),{ env:=[(4,.cst (.row 27 .whole))],bxs:=[(27,.row tE false)] })]
def f79_l2 (t1:Int) (t8:(List Ed)) (t9:Int):Nat→Int→(List Ed)→Option (outDen f79_l2_outs)
 | 0,_,_=>none
 | k + 1,t10,r27 =>
 bif (decide (t10 < t9)) then
 bif (inR t10 t8.length) then
 let v1:Int:=(at_ tE t8 t10).2.1
 bif (decide (v1 = t1)) then
 bif (decide (r27.length + ([(at_ tE t8 t10)]:List Ed).length≤appLim)) then f79_l2 t1 t8 t9 k (IntKind.wrap .i64 (t10 + 1)) (r27++([(at_ tE t8 t10)]:List Ed)) else none
 else
 let v2:Int:=(at_ tE t8 t10).2.2.1
 bif (decide (v2 = t1)) then
 bif (decide (r27.length + ([(at_ tE t8 t10)]:List Ed).length≤appLim)) then f79_l2 t1 t8 t9 k (IntKind.wrap .i64 (t10 + 1)) (r27++([(at_ tE t8 t10)]:List Ed)) else none
 else
 f79_l2 t1 t8 t9 k (IntKind.wrap .i64 (t10 + 1)) r27
 else none
 else
 some ((),(),(r27,()))
def f79_l2_n (n:Nat) (x:f79_l2_head.den):=f79_l2 x.1.1 x.1.2.1 x.1.2.2.1 n x.1.2.2.2.1 x.2.2.1
def f79_l2_spec:LSpec:={ thaws:=[.slot 4 27 tE],head:=f79_l2_head,outs:=f79_l2_outs,fn:=fun x=>f79_l2_n ((x.1.2.2.1 - x.1.2.2.2.1).toNat + 1) x }
def f79 (a0:Gr) (a1:Int):Option ((List Ed) × Unit) :=
 (f79_l2 a1 a0.2.1 (a0.2.1.length:Int) (((a0.2.1.length:Int) - (0:Int)).toNat + 1) (0:Int) []).bind fun o3 =>
 let u4:(List Ed):=o3.2.2.1
 some (u4,())
def f79_spec:PSpec:={ args:=[tG,tI],res:=[(.sl tE)],fn:=fun x=>f79 x.1 x.2.1 }
noncomputable def f79_code:Code:=Tryz.f79.body.getD .skip
noncomputable def f79_env:Env0:={ C:=cfg,P:=[],L:=[(⟨12,0,79,2⟩,f79_l2_spec)],F:=[(79,Tryz.f79)] }
theorem f79_l2_ok:LoopOK f79_env 12 79 0 (loopAt f79_code 2) f79_l2_spec :=
 loopOK_of (by kernel_rfl) f79_l2_n (fun x o h=>⟨_,h⟩) (fun x=>by kernel_rfl) (fun n x=>by kernel_rfl)
theorem f79_run (x:tysDen (f79_spec).args):runF f79_env 79 Tryz.f79 f79_code (f79_spec).args (f79_spec).res x = f79_spec.fn x:=by kernel_rfl
theorem f79_enter:Enterable Tryz.prog 79:=enter_fun Tryz.func79 (by kernel_rfl)
theorem f79_envOK:EnvOK Tryz.prog f79_env:=envOK_of cds (by kernel_rfl) cfg_ok trivial trivial ⟨⟨Tryz.func79,by kernel_rfl⟩,trivial⟩ ⟨⟨Tryz.f79,f79_code,rfl,rfl,f79_l2_ok⟩,trivial⟩ trivial trivial
theorem f79_pure:PureOK Tryz.prog cfg 79 f79_spec:=pure_of_run f79_envOK (fn:=Tryz.f79) (c:=f79_code) rfl rfl f79_spec (fun x _ h=>(f79_run x).trans h)
def f54_l4_head:Ann:={ env:=[(6,.ty .str),(22,.ty (.sl tE)),(23,TI),(24,TI)] }
def f54_l4_outs:List (Ex × Ann):=[((.exit 0),{ env:=[(6,.ty .str)] })]
def f54_l4 (t22:(List Ed)) (t23:Int):Nat→ByteArray→Int→Option (outDen f54_l4_outs)
 | 0,_,_=>none
 | k + 1,t6,t24 =>
 bif (decide (t24 < t23)) then
 bif (inR t24 t22.length) then
 let v3:Bool:=(at_ tE t22 t24).2.2.2.1
 bif v3 then
 let v4:Int:=(at_ tE t22 t24).1
 let v5:Int:=(at_ tE t22 t24).2.1
 let v6:Int:=(at_ tE t22 t24).2.2.1
 let v7:Int:=(at_ tE t22 t24).2.2.2.2.1
 let v8:Int:=(at_ tE t22 t24).2.2.2.2.2.1
 (f110 ([v4,v5,v6,(1:Int),v7,v8]:List Int)).bind fun y9 =>
 bif (catOk t6 y9.1) then f54_l4 t22 t23 k (t6++y9.1) (IntKind.wrap .i64 (t24 + 1)) else none
 else
 let v10:Int:=(at_ tE t22 t24).1
 let v11:Int:=(at_ tE t22 t24).2.1
 let v12:Int:=(at_ tE t22 t24).2.2.1
 let v13:Int:=(at_ tE t22 t24).2.2.2.2.1
 let v14:Int:=(at_ tE t22 t24).2.2.2.2.2.1
 (f110 ([v10,v11,v12,(0:Int),v13,v14]:List Int)).bind fun y15 =>
 bif (catOk t6 y15.1) then f54_l4 t22 t23 k (t6++y15.1) (IntKind.wrap .i64 (t24 + 1)) else none
 else none
 else
 some ((t6,()),(),())
def f54_l4_n (n:Nat) (x:f54_l4_head.den):=f54_l4 x.1.2.1 x.1.2.2.1 n x.1.1 x.1.2.2.2.1
def f54_l4_spec:LSpec:={ head:=f54_l4_head,outs:=f54_l4_outs,fn:=fun x=>f54_l4_n ((x.1.2.2.1 - x.1.2.2.2.1).toNat + 1) x }
def f54 (a0:Gr) (a1:Vx):Option (ByteArray × Unit) :=
 (f79 a0 a1.1).bind fun y1 =>
 (f110 ([a1.1,a1.2.1,(y1.1.length:Int)]:List Int)).bind fun y2 =>
 (f54_l4 y1.1 (y1.1.length:Int) (((y1.1.length:Int) - (0:Int)).toNat + 1) y2.1 (0:Int)).bind fun o16 =>
 let u17:ByteArray:=o16.1.1
 some (u17,())
def f54_spec:PSpec:={ args:=[tG,tV],res:=[.str],fn:=fun x=>f54 x.1 x.2.1 }
noncomputable def f54_code:Code:=Tryz.f54.body.getD .skip
noncomputable def f54_env:Env0:={ C:=cfg,P:=[(79,f79_spec),(110,f110_spec)],L:=[(⟨12,0,54,4⟩,f54_l4_spec)],F:=[(54,Tryz.f54)] }
theorem f54_l4_ok:LoopOK f54_env 12 54 0 (loopAt f54_code 4) f54_l4_spec :=
 loopOK_of (by kernel_rfl) f54_l4_n (fun x o h=>⟨_,h⟩) (fun x=>by kernel_rfl) (fun n x=>by kernel_rfl)
theorem f54_run (x:tysDen (f54_spec).args):runF f54_env 54 Tryz.f54 f54_code (f54_spec).args (f54_spec).res x = f54_spec.fn x:=by kernel_rfl
theorem f54_enter:Enterable Tryz.prog 54:=enter_fun Tryz.func54 (by kernel_rfl)
theorem f54_envOK:EnvOK Tryz.prog f54_env:=envOK_of cds (by kernel_rfl) cfg_ok ⟨⟨f79_pure,f79_enter⟩,⟨f110_pure,f110_enter⟩,trivial⟩ trivial ⟨⟨Tryz.func54,by kernel_rfl⟩,trivial⟩ ⟨⟨Tryz.f54,f54_code,rfl,rfl,f54_l4_ok⟩,trivial⟩ trivial trivial
theorem f54_pure:PureOK Tryz.prog cfg 54 f54_spec:=pure_of_run f54_envOK (fn:=Tryz.f54) (c:=f54_code) rfl rfl f54_spec (fun x _ h=>(f54_run x).trans h)
def f109_l1x_head:Ann:={ env:=[(0,.cst (.yld 905)),(1,cP 10001),(9,.ty (.sl tV)),(10,TI),(11,TI)],stk:=[[(0,.cst (.yld 905))],[(2,.cst .nils),(3,TI),(4,cP 4)]],bxs:=[(905,.loop false 13 5 [(4,cP 4)]),(10001,.var [.ty (.sl tV),.ty (.sl tE),.ty (.sl tI)]),(4,.var [.cst (.row 905022015 .whole)]),(905022015,.row tN false)] }
def f109_l1x_outs:List (Ex × Ann):=[((.exit 0),{ env:=[(0,.cst (.yld 905)),(1,cP 10001)],stk:=[[(0,.cst (.yld 905))],[(2,.cst .nils),(3,TI),(4,cP 4)]],bxs:=[(905,.loop false 13 5 [(4,cP 4)]),(10001,.var [.ty (.sl tV),.ty (.sl tE),.ty (.sl tI)]),(4,.var [.cst (.row 905022015 .whole)]),(905022015,.row tN false)] })]
def f109_l1x (t9:(List Vx)) (t10:Int) (k1t3:Int) (b10001g0:(List Vx)) (b10001g1:(List Ed)) (b10001g2:(List Int)):Nat→Int→(List En)→Option (outDen f109_l1x_outs)
 | 0,_,_=>none
 | k + 1,t11,r905022015 =>
 bif (decide (t11 < t10)) then
 bif (inR t11 t9.length) then
 let v2:Int:=(at_ tV t9 t11).1
 (f54 (b10001g0,(b10001g1,(b10001g2,()))) (at_ tV t9 t11)).bind fun y3 =>
 bif (decide (r905022015.length + ([(v2,(y3.1,()))]:List En).length≤appLim)) then f109_l1x t9 t10 k1t3 b10001g0 b10001g1 b10001g2 k (IntKind.wrap .i64 (t11 + 1)) (r905022015++([(v2,(y3.1,()))]:List En)) else none
 else none
 else
 some ((),((),(k1t3,()),()),((),(b10001g0,b10001g1,b10001g2,()),(),r905022015,()))
def f109_l1x_n (n:Nat) (x:f109_l1x_head.den):=f109_l1x x.1.1 x.1.2.1 x.2.1.2.1.1 x.2.2.2.1.1 x.2.2.2.1.2.1 x.2.2.2.1.2.2.1 n x.1.2.2.1 x.2.2.2.2.2.1
def f109_l1x_spec:LSpec:={ thaws:=[.cell 4 0 905022015 tN],head:=f109_l1x_head,outs:=f109_l1x_outs,fn:=fun x=>f109_l1x_n ((x.1.2.1 - x.1.2.2.1).toNat + 1) x }
def f109_l7x_head:Ann:={ env:=[(0,.cst (.yld 905)),(1,cP 10001),(5,TI),(26,.ty (.sl tE)),(27,TI),(28,TI)],stk:=[[(0,.cst (.yld 905))],[(2,.cst .nils),(3,TI),(4,cP 4)]],bxs:=[(905,.loop false 13 5 [(4,cP 4)]),(10001,.var [.ty (.sl tV),.ty (.sl tE),.ty (.sl tI)]),(4,.var [.cst (.row 905022015 .whole)]),(905022015,.row tN false)] }
def f109_l7x_outs:List (Ex × Ann):=[((.exit 2),{ env:=[(0,.cst (.yld 905)),(1,cP 10001),(5,TI)],stk:=[[(0,.cst (.yld 905))],[(2,.cst .nils),(3,TI),(4,cP 4)]],bxs:=[(905,.loop false 13 5 [(4,cP 4)]),(10001,.var [.ty (.sl tV),.ty (.sl tE),.ty (.sl tI)]),(4,.var [.cst (.row 905022015 .whole)]),(905022015,.row tN false)] })]
def f109_l7x (t26:(List Ed)) (t27:Int) (k1t3:Int) (b10001g0:(List Vx)) (b10001g1:(List Ed)) (b10001g2:(List Int)) (r905022015:(List En)):Nat→Int→Int→Option (outDen f109_l7x_outs)
 | 0,_,_=>none
 | k + 1,t5,t28 =>
 bif (decide (t28 < t27)) then
 bif (inR t28 t26.length) then
 let v10:Int:=(at_ tE t26 t28).1
 bif (decide (0≤v10)) then f109_l7x t26 t27 k1t3 b10001g0 b10001g1 b10001g2 r905022015 k (orV .i64 t5 (shlV .i64 (1:Int) v10)) (IntKind.wrap .i64 (t28 + 1)) else none
 else none
 else
 some ((t5,()),((),(k1t3,()),()),((),(b10001g0,b10001g1,b10001g2,()),(),r905022015,()))
def f109_l7x_n (n:Nat) (x:f109_l7x_head.den):=f109_l7x x.1.2.1 x.1.2.2.1 x.2.1.2.1.1 x.2.2.2.1.1 x.2.2.2.1.2.1 x.2.2.2.1.2.2.1 x.2.2.2.2.2.1 n x.1.1 x.1.2.2.2.1
def f109_l7x_spec:LSpec:={ head:=f109_l7x_head,outs:=f109_l7x_outs,fn:=fun x=>f109_l7x_n ((x.1.2.2.1 - x.1.2.2.2.1).toNat + 1) x }
def f13 (a0:Gr):Option ((List En) × Int × Unit) :=
 (f46 a0).bind fun y1 =>
 bif (!y1.1) then
 some ([],(60:Int),())
 else
 (f109_l1x a0.1 (a0.1.length:Int) (0:Int) a0.1 a0.2.1 a0.2.2.1 (((a0.1.length:Int) - (0:Int)).toNat + 1) (0:Int) []).bind fun o4 =>
 let u5:Int:=o4.2.1.2.1.1
 let u6:(List Vx):=o4.2.2.2.1.1
 let u7:(List Ed):=o4.2.2.2.1.2.1
 let u8:(List Int):=o4.2.2.2.1.2.2.1
 let u9:(List En):=o4.2.2.2.2.2.1
 (f109_l7x u7 (u7.length:Int) u5 u6 u7 u8 u9 (((u7.length:Int) - (0:Int)).toNat + 1) (0:Int) (0:Int)).bind fun o11 =>
 let u12:Int:=o11.1.1
 let u16:(List Int):=o11.2.2.2.1.2.2.1
 let u17:(List En):=o11.2.2.2.2.2.1
 (f110 ([(u16.length:Int)]:List Int)).bind fun y18 =>
 (f110 u16).bind fun y19 =>
 bif (catOk y18.1 y19.1) then
 (f110 ([u12]:List Int)).bind fun y20 =>
 bif (catOk (y18.1++y19.1) y20.1) then bif (decide (u17.length + ([((63:Int),(((y18.1++y19.1)++y20.1),()))]:List En).length≤appLim)) then some ((u17++([((63:Int),(((y18.1++y19.1)++y20.1),()))]:List En)),(0:Int),()) else none else none
 else none
def f13_spec:PSpec:={ args:=[tG],res:=[(.sl tN),tI],fn:=fun x=>f13 x.1 }
noncomputable def f13_code:Code:=Tryz.f13.body.getD .skip
noncomputable def f13_code_109:Code:=Tryz.f109.body.getD .skip
noncomputable def f13_env:Env0:={ C:=cfg,P:=[(46,f46_spec),(54,f54_spec),(110,f110_spec)],L:=[(⟨11,905000,109,1⟩,f109_l1x_spec),(⟨11,905000,109,7⟩,f109_l7x_spec)],F:=[(13,Tryz.f13),(47,Tryz.f47),(109,Tryz.f109)] }
theorem f109_l1x_ok:LoopOK f13_env 11 109 905000 (loopAt f13_code_109 1) f109_l1x_spec :=
 loopOK_of (by kernel_rfl) f109_l1x_n (fun x o h=>⟨_,h⟩) (fun x=>by kernel_rfl) (fun n x=>by kernel_rfl)
theorem f109_l7x_ok:LoopOK f13_env 11 109 905000 (loopAt f13_code_109 7) f109_l7x_spec :=
 loopOK_of (by kernel_rfl) f109_l7x_n (fun x o h=>⟨_,h⟩) (fun x=>by kernel_rfl) (fun n x=>by kernel_rfl)
theorem f13_run (x:tysDen (f13_spec).args):runF f13_env 13 Tryz.f13 f13_code (f13_spec).args (f13_spec).res x = f13_spec.fn x:=by kernel_rfl
theorem f13_enter:Enterable Tryz.prog 13:=enter_fun Tryz.func13 (by kernel_rfl)
theorem f13_envOK:EnvOK Tryz.prog f13_env:=envOK_of cds (by kernel_rfl) cfg_ok ⟨⟨f46_pure,f46_enter⟩,⟨f54_pure,f54_enter⟩,⟨f110_pure,f110_enter⟩,trivial⟩ trivial ⟨⟨Tryz.func13,by kernel_rfl⟩,⟨Tryz.func47,by kernel_rfl⟩,⟨Tryz.func109,by kernel_rfl⟩,trivial⟩ ⟨⟨Tryz.f109,f13_code_109,rfl,rfl,f109_l1x_ok⟩,⟨Tryz.f109,f13_code_109,rfl,rfl,f109_l7x_ok⟩,trivial⟩ trivial trivial
theorem f13_pure:PureOK Tryz.prog cfg 13 f13_spec:=pure_of_run f13_envOK (fn:=Tryz.f13) (c:=f13_code) rfl rfl f13_spec (fun x _ h=>(f13_run x).trans h)
def f130 (a0:En):Option (Bool × Unit) :=
 let v1:Bool:=(decide ((a0.2.1.size:Int) = (0:Int)))
 bif v1 then
 some (true,())
 else
 let v2:Bool:=(decide ((a0.2.1.size:Int) > (65536:Int)))
 some (v2,())
def f130_spec:PSpec:={ args:=[tN],res:=[.bool],fn:=fun x=>f130 x.1 }
noncomputable def f130_code:Code:=Tryz.f130.body.getD .skip
noncomputable def f130_env:Env0:={ C:=cfg,P:=[],L:=[],F:=[(130,Tryz.f130)] }
theorem f130_run (x:tysDen (f130_spec).args):runF f130_env 130 Tryz.f130 f130_code (f130_spec).args (f130_spec).res x = f130_spec.fn x:=by kernel_rfl
theorem f130_enter:Enterable Tryz.prog 130:=enter_fun Tryz.func130 (by kernel_rfl)
theorem f130_envOK:EnvOK Tryz.prog f130_env:=envOK_of cds (by kernel_rfl) cfg_ok trivial trivial ⟨⟨Tryz.func130,by kernel_rfl⟩,trivial⟩ trivial trivial trivial
theorem f130_pure:PureOK Tryz.prog cfg 130 f130_spec:=pure_of_run f130_envOK (fn:=Tryz.f130) (c:=f130_code) rfl rfl f130_spec (fun x _ h=>(f130_run x).trans h)
def f131_l2_head:Ann:={ env:=[(0,.ty (.sl tI)),(5,.ty (.sl tI)),(6,TI),(7,TI)] }
def f131_l2_outs:List (Ex × Ann):=[((.exit 0),{ env:=[] }),(.ret,{ env:=[(2,.ty .bool)] })]
def f131_l2 (t0:(List Int)) (t5:(List Int)) (t6:Int):Nat→Int→Option (outDen f131_l2_outs)
 | 0,_=>none
 | k + 1,t7 =>
 bif (decide (t7 < t6)) then
 bif (inR t7 t5.length) then
 let v1:Bool:=(decide ((at_ tI t5 t7) < (0:Int)))
 bif v1 then
 some (.inr ((false,()),(),()))
 else
 let v2:Bool:=(decide ((at_ tI t5 t7) ≥ (64:Int)))
 bif v2 then
 some (.inr ((false,()),(),()))
 else
 bif (decide (t7 > (0:Int))) then
 bif (inR (IntKind.wrap .i64 (t7 - (1:Int))) t0.length) then
 let v3:Int:=(at_ tI t0 (IntKind.wrap .i64 (t7 - (1:Int))))
 bif (decide ((at_ tI t5 t7)≤v3)) then
 some (.inr ((false,()),(),()))
 else
 f131_l2 t0 t5 t6 k (IntKind.wrap .i64 (t7 + 1))
 else none
 else
 f131_l2 t0 t5 t6 k (IntKind.wrap .i64 (t7 + 1))
 else none
 else
 some (.inl ((),(),()))
def f131_l2_n (n:Nat) (x:f131_l2_head.den):=f131_l2 x.1.1 x.1.2.1 x.1.2.2.1 n x.1.2.2.2.1
def f131_l2_spec:LSpec:={ head:=f131_l2_head,outs:=f131_l2_outs,fn:=fun x=>f131_l2_n ((x.1.2.2.1 - x.1.2.2.2.1).toNat + 1) x }
def f131 (a0:(List Int)):Option (Bool × Unit) :=
 (f131_l2 a0 a0 (a0.length:Int) (((a0.length:Int) - (0:Int)).toNat + 1) (0:Int)).bind fun o4 =>
 Sum.elim (fun o5 =>
 some (true,())) (fun o6 =>
 let u7:Bool:=o6.1.1
 some (u7,())) o4
def f131_spec:PSpec:={ args:=[(.sl tI)],res:=[.bool],fn:=fun x=>f131 x.1 }
noncomputable def f131_code:Code:=Tryz.f131.body.getD .skip
noncomputable def f131_env:Env0:={ C:=cfg,P:=[],L:=[(⟨12,0,131,2⟩,f131_l2_spec)],F:=[(131,Tryz.f131)] }
theorem f131_l2_ok:LoopOK f131_env 12 131 0 (loopAt f131_code 2) f131_l2_spec :=
 loopOK_of (by kernel_rfl) f131_l2_n (fun x o h=>⟨_,h⟩) (fun x=>by kernel_rfl) (fun n x=>by kernel_rfl)
theorem f131_run (x:tysDen (f131_spec).args):runF f131_env 131 Tryz.f131 f131_code (f131_spec).args (f131_spec).res x = f131_spec.fn x:=by kernel_rfl
theorem f131_enter:Enterable Tryz.prog 131:=enter_fun Tryz.func131 (by kernel_rfl)
theorem f131_envOK:EnvOK Tryz.prog f131_env:=envOK_of cds (by kernel_rfl) cfg_ok trivial trivial ⟨⟨Tryz.func131,by kernel_rfl⟩,trivial⟩ ⟨⟨Tryz.f131,f131_code,rfl,rfl,f131_l2_ok⟩,trivial⟩ trivial trivial
theorem f131_pure:PureOK Tryz.prog cfg 131 f131_spec:=pure_of_run f131_envOK (fn:=Tryz.f131) (c:=f131_code) rfl rfl f131_spec (fun x _ h=>(f131_run x).trans h)
def f133 (a0:En):Option (Int × Unit) :=
 some (a0.1,())
def f133_spec:PSpec:={ args:=[tN],res:=[tI],fn:=fun x=>f133 x.1 }
noncomputable def f133_code:Code:=Tryz.f133.body.getD .skip
noncomputable def f133_env:Env0:={ C:=cfg,P:=[],L:=[],F:=[(133,Tryz.f133)] }
theorem f133_run (x:tysDen (f133_spec).args):runF f133_env 133 Tryz.f133 f133_code (f133_spec).args (f133_spec).res x = f133_spec.fn x:=by kernel_rfl
theorem f133_enter:Enterable Tryz.prog 133:=enter_fun Tryz.func133 (by kernel_rfl)
theorem f133_envOK:EnvOK Tryz.prog f133_env:=envOK_of cds (by kernel_rfl) cfg_ok trivial trivial ⟨⟨Tryz.func133,by kernel_rfl⟩,trivial⟩ trivial trivial trivial
theorem f133_pure:PureOK Tryz.prog cfg 133 f133_spec:=pure_of_run f133_envOK (fn:=Tryz.f133) (c:=f133_code) rfl rfl f133_spec (fun x _ h=>(f133_run x).trans h)
def f132_l3_b5000_head:Ann:={ env:=[(1,.cst (.fn 133 [])),(5,.cst (.row 5019 .whole)),(8,.ty (.sl tN)),(9,TI),(10,TI)],stk:=[[(0,.ty (.sl tN)),(2,.ty .bool),(3,.cst (.fn 130 []))]],bxs:=[(5019,.row tI false)] }
def f132_l3_b5000_outs:List (Ex × Ann):=[((.exit 0),{ env:=[(5,.cst (.row 5019 .whole))],stk:=[[(0,.ty (.sl tN)),(2,.ty .bool),(3,.cst (.fn 130 []))]],bxs:=[(5019,.row tI false)] })]
def f132_l3_b5000 (t8:(List En)) (t9:Int) (k0t0:(List En)) (k0t2:Bool):Nat→Int→(List Int)→Option (outDen f132_l3_b5000_outs)
 | 0,_,_=>none
 | k + 1,t10,r5019 =>
 bif (decide (t10 < t9)) then
 bif (inR t10 t8.length) then
 (f133 (at_ tN t8 t10)).bind fun y1 =>
 bif (decide (r5019.length + ([y1.1]:List Int).length≤appLim)) then f132_l3_b5000 t8 t9 k0t0 k0t2 k (IntKind.wrap .i64 (t10 + 1)) (r5019++([y1.1]:List Int)) else none
 else none
 else
 some ((),((k0t0,k0t2,()),()),(r5019,()))
def f132_l3_b5000_n (n:Nat) (x:f132_l3_b5000_head.den):=f132_l3_b5000 x.1.1 x.1.2.1 x.2.1.1.1 x.2.1.1.2.1 n x.1.2.2.1 x.2.2.1
def f132_l3_b5000_spec:LSpec:={ thaws:=[.slot 5 5019 tI],head:=f132_l3_b5000_head,outs:=f132_l3_b5000_outs,fn:=fun x=>f132_l3_b5000_n ((x.1.2.1 - x.1.2.2.1).toNat + 1) x }
def f190_l2x_head:Ann:={ env:=[(0,.ty (.sl tN)),(1,.cst (.fn 130 [])),(7,TI),(8,TI)],stk:=[[(4,.ty .bool)],[(2,.ty .bool),(7,.ty .bool)]] }
def f190_l2x_outs:List (Ex × Ann):=[((.exit 0),{ env:=[],stk:=[[(4,.ty .bool)],[(2,.ty .bool),(7,.ty .bool)]] }),(.ret,{ env:=[(4,TI)],stk:=[[(4,.ty .bool)],[(2,.ty .bool),(7,.ty .bool)]] })]
def f190_l2x (t0:(List En)) (t7:Int) (k0t4:Bool) (k1t2:Bool) (k1t7:Bool):Nat→Int→Option (outDen f190_l2x_outs)
 | 0,_=>none
 | k + 1,t8 =>
 bif (decide (t8 < t7)) then
 bif (inR t8 t0.length) then
 (f130 (at_ tN t0 t8)).bind fun y7 =>
 bif y7.1 then
 some (.inr ((t8,()),((k0t4,()),(k1t2,k1t7,()),()),()))
 else
 f190_l2x t0 t7 k0t4 k1t2 k1t7 k (IntKind.wrap .i64 (t8 + 1))
 else none
 else
 some (.inl ((),((k0t4,()),(k1t2,k1t7,()),()),()))
def f190_l2x_n (n:Nat) (x:f190_l2x_head.den):=f190_l2x x.1.1 x.1.2.1 x.2.1.1.1 x.2.1.2.1.1 x.2.1.2.1.2.1 n x.1.2.2.1
def f190_l2x_spec:LSpec:={ head:=f190_l2x_head,outs:=f190_l2x_outs,fn:=fun x=>f190_l2x_n ((x.1.2.1 - x.1.2.2.1).toNat + 1) x }
def f87 (a0:(List En)):Option (Bool × Unit) :=
 (f132_l3_b5000 a0 (a0.length:Int) a0 false (((a0.length:Int) - (0:Int)).toNat + 1) (0:Int) []).bind fun o2 =>
 let u3:(List En):=o2.2.1.1.1
 let u4:Bool:=o2.2.1.1.2.1
 let u5:(List Int):=o2.2.2.1
 (f131 u5).bind fun y6 =>
 bif y6.1 then
 (f190_l2x u3 (u3.length:Int) false u4 true (((u3.length:Int) - (0:Int)).toNat + 1) (0:Int)).bind fun o8 =>
 Sum.elim (fun o9 =>
 let u13:Bool:=o9.2.1.2.1.2.1
 bif u13 then
 some (true,())
 else
 some (false,())) (fun o10 =>
 let u14:Int:=o10.1.1
 let u17:Bool:=o10.2.1.2.1.2.1
 bif u17 then
 some ((!(decide (u14 ≥ (0:Int)))),())
 else
 some (false,())) o8
 else
 some (false,())
def f87_spec:PSpec:={ args:=[(.sl tN)],res:=[.bool],fn:=fun x=>f87 x.1 }
noncomputable def f87_code:Code:=Tryz.f87.body.getD .skip
noncomputable def f87_code_132:Code:=Tryz.f132.body.getD .skip
noncomputable def f87_code_190:Code:=Tryz.f190.body.getD .skip
noncomputable def f87_env:Env0:={ C:=cfg,P:=[(130,f130_spec),(131,f131_spec),(133,f133_spec)],L:=[(⟨11,5000,132,3⟩,f132_l3_b5000_spec),(⟨10,10007000,190,2⟩,f190_l2x_spec)],F:=[(87,Tryz.f87),(132,Tryz.f132),(134,Tryz.f134),(190,Tryz.f190)] }
theorem f132_l3_b5000_ok:LoopOK f87_env 11 132 5000 (loopAt f87_code_132 3) f132_l3_b5000_spec :=
 loopOK_of (by kernel_rfl) f132_l3_b5000_n (fun x o h=>⟨_,h⟩) (fun x=>by kernel_rfl) (fun n x=>by kernel_rfl)
theorem f190_l2x_ok:LoopOK f87_env 10 190 10007000 (loopAt f87_code_190 2) f190_l2x_spec :=
 loopOK_of (by kernel_rfl) f190_l2x_n (fun x o h=>⟨_,h⟩) (fun x=>by kernel_rfl) (fun n x=>by kernel_rfl)
theorem f87_run (x:tysDen (f87_spec).args):runF f87_env 87 Tryz.f87 f87_code (f87_spec).args (f87_spec).res x = f87_spec.fn x:=by kernel_rfl
theorem f87_enter:Enterable Tryz.prog 87:=enter_fun Tryz.func87 (by kernel_rfl)
theorem f87_envOK:EnvOK Tryz.prog f87_env:=envOK_of cds (by kernel_rfl) cfg_ok ⟨⟨f130_pure,f130_enter⟩,⟨f131_pure,f131_enter⟩,⟨f133_pure,f133_enter⟩,trivial⟩ trivial ⟨⟨Tryz.func87,by kernel_rfl⟩,⟨Tryz.func132,by kernel_rfl⟩,⟨Tryz.func134,by kernel_rfl⟩,⟨Tryz.func190,by kernel_rfl⟩,trivial⟩ ⟨⟨Tryz.f132,f87_code_132,rfl,rfl,f132_l3_b5000_ok⟩,⟨Tryz.f190,f87_code_190,rfl,rfl,f190_l2x_ok⟩,trivial⟩ trivial trivial
theorem f87_pure:PureOK Tryz.prog cfg 87 f87_spec:=pure_of_run f87_envOK (fn:=Tryz.f87) (c:=f87_code) rfl rfl f87_spec (fun x _ h=>(f87_run x).trans h)
def f135 :Option (ByteArray × Unit) :=
 bif (decide (0≤(32:Int)) && decide ((32:Int)≤(32:Int)) && decide ((32:Int)≤(appLim:Int))) then
 let v1:ByteArray:=(ofBytes (List.replicate (Int.toNat (32:Int)) (0:Int)))
 some (v1,())
 else none
def f135_spec:PSpec:={ args:=[],res:=[.str],fn:=fun x=>f135  }
noncomputable def f135_code:Code:=Tryz.f135.body.getD .skip
noncomputable def f135_env:Env0:={ C:=cfg,P:=[],L:=[],F:=[(135,Tryz.f135)] }
theorem f135_run (x:tysDen (f135_spec).args):runF f135_env 135 Tryz.f135 f135_code (f135_spec).args (f135_spec).res x = f135_spec.fn x:=by kernel_rfl
theorem f135_enter:Enterable Tryz.prog 135:=enter_fun Tryz.func135 (by kernel_rfl)
theorem f135_envOK:EnvOK Tryz.prog f135_env:=envOK_of cds (by kernel_rfl) cfg_ok trivial trivial ⟨⟨Tryz.func135,by kernel_rfl⟩,trivial⟩ trivial trivial trivial
theorem f135_pure:PureOK Tryz.prog cfg 135 f135_spec:=pure_of_run f135_envOK (fn:=Tryz.f135) (c:=f135_code) rfl rfl f135_spec (fun x _ h=>(f135_run x).trans h)
def f239 (a0:Int) (a1:Int):Option (Int × Unit) :=
 let v1:Int:=(andV .u64 (IntKind.wrap .u64 a1) (31:Int))
 bif (decide (0≤v1)) then
 bif (decide (0≤(IntKind.wrap .u64 ((32:Int) - v1)))) then
 let v2:Int:=(shrV .u32 a0 (IntKind.wrap .u64 ((32:Int) - v1)))
 some ((orV .u32 (shlV .u32 a0 v1) v2),())
 else none
 else none
def f239_spec:PSpec:={ args:=[(.int .u32),tI],res:=[(.int .u32)],fn:=fun x=>f239 x.1 x.2.1 }
noncomputable def f239_code:Code:=Tryz.f239.body.getD .skip
noncomputable def f239_env:Env0:={ C:=cfg,P:=[],L:=[],F:=[(239,Tryz.f239)] }
theorem f239_run (x:tysDen (f239_spec).args):runF f239_env 239 Tryz.f239 f239_code (f239_spec).args (f239_spec).res x = f239_spec.fn x:=by kernel_rfl
theorem f239_enter:Enterable Tryz.prog 239:=enter_fun Tryz.func239 (by kernel_rfl)
theorem f239_envOK:EnvOK Tryz.prog f239_env:=envOK_of cds (by kernel_rfl) cfg_ok trivial trivial ⟨⟨Tryz.func239,by kernel_rfl⟩,trivial⟩ trivial trivial trivial
theorem f239_pure:PureOK Tryz.prog cfg 239 f239_spec:=pure_of_run f239_envOK (fn:=Tryz.f239) (c:=f239_code) rfl rfl f239_spec (fun x _ h=>(f239_run x).trans h)
def f235_l3_head:Ann:={ env:=[(0,.ty (.int .u32)),(5,.ty (.int .u32)),(8,.ty (.sl tI)),(9,TI),(10,TI)] }
def f235_l3_outs:List (Ex × Ann):=[((.exit 0),{ env:=[(5,.ty (.int .u32))] })]
def f235_l3 (t0:Int) (t8:(List Int)) (t9:Int):Nat→Int→Int→Option (outDen f235_l3_outs)
 | 0,_,_=>none
 | k + 1,t5,t10 =>
 bif (decide (t10 < t9)) then
 bif (inR t10 t8.length) then
 let v1:Int:=(IntKind.wrap .i64 (0 - (at_ tI t8 t10)))
 (f239 t0 v1).bind fun y2 =>
 f235_l3 t0 t8 t9 k (xorV .u32 t5 y2.1) (IntKind.wrap .i64 (t10 + 1))
 else none
 else
 some ((t5,()),(),())
def f235_l3_n (n:Nat) (x:f235_l3_head.den):=f235_l3 x.1.1 x.1.2.2.1 x.1.2.2.2.1 n x.1.2.1 x.1.2.2.2.2.1
def f235_l3_spec:LSpec:={ head:=f235_l3_head,outs:=f235_l3_outs,fn:=fun x=>f235_l3_n ((x.1.2.2.2.1 - x.1.2.2.2.2.1).toNat + 1) x }
def f235 (a0:Int) (a1:(List Int)):Option (Int × Unit) :=
 (f235_l3 a0 a1 (a1.length:Int) (((a1.length:Int) - (0:Int)).toNat + 1) (0:Int) (0:Int)).bind fun o3 =>
 let u4:Int:=o3.1.1
 some (u4,())
def f235_spec:PSpec:={ args:=[(.int .u32),(.sl tI)],res:=[(.int .u32)],fn:=fun x=>f235 x.1 x.2.1 }
noncomputable def f235_code:Code:=Tryz.f235.body.getD .skip
noncomputable def f235_env:Env0:={ C:=cfg,P:=[(239,f239_spec)],L:=[(⟨12,0,235,3⟩,f235_l3_spec)],F:=[(235,Tryz.f235)] }
theorem f235_l3_ok:LoopOK f235_env 12 235 0 (loopAt f235_code 3) f235_l3_spec :=
 loopOK_of (by kernel_rfl) f235_l3_n (fun x o h=>⟨_,h⟩) (fun x=>by kernel_rfl) (fun n x=>by kernel_rfl)
theorem f235_run (x:tysDen (f235_spec).args):runF f235_env 235 Tryz.f235 f235_code (f235_spec).args (f235_spec).res x = f235_spec.fn x:=by kernel_rfl
theorem f235_enter:Enterable Tryz.prog 235:=enter_fun Tryz.func235 (by kernel_rfl)
theorem f235_envOK:EnvOK Tryz.prog f235_env:=envOK_of cds (by kernel_rfl) cfg_ok ⟨⟨f239_pure,f239_enter⟩,trivial⟩ trivial ⟨⟨Tryz.func235,by kernel_rfl⟩,trivial⟩ ⟨⟨Tryz.f235,f235_code,rfl,rfl,f235_l3_ok⟩,trivial⟩ trivial trivial
theorem f235_pure:PureOK Tryz.prog cfg 235 f235_spec:=pure_of_run f235_envOK (fn:=Tryz.f235) (c:=f235_code) rfl rfl f235_spec (fun x _ h=>(f235_run x).trans h)
def f234_l2_head:Ann:={ env:=[(0,.ty (.sl (.int .u8))),(2,cP 2),(7,TI)],bxs:=[(2,.var [.ty (.arr 64 (.int .u32))])] }
def f234_l2_outs:List (Ex × Ann):=[((.exit 0),{ env:=[(2,cP 2)],bxs:=[(2,.var [.ty (.arr 64 (.int .u32))])] })]
def f234_l2 (t0:(List Int)):Nat→Int→(List Int)→Option (outDen f234_l2_outs)
 | 0,_,_=>none
 | k + 1,t7,b2g0 =>
 bif (decide (t7 < (16:Int))) then
 bif (inR (IntKind.wrap .i64 ((4:Int) * t7)) t0.length) then
 let v1:Int:=(at_ (.int .u8) t0 (IntKind.wrap .i64 ((4:Int) * t7)))
 let v2:Int:=(shlV .u32 (IntKind.wrap .u32 v1) (24:Int))
 let v3:Int:=(IntKind.wrap .i64 ((IntKind.wrap .i64 ((4:Int) * t7)) + 1))
 bif (inR v3 t0.length) then
 let v4:Int:=(IntKind.wrap .u32 (at_ (.int .u8) t0 v3))
 let v5:Int:=(IntKind.wrap .i64 ((IntKind.wrap .i64 ((4:Int) * t7)) + (2:Int)))
 bif (inR v5 t0.length) then
 let v6:Int:=(IntKind.wrap .u32 (at_ (.int .u8) t0 v5))
 let v7:Int:=(orV .u32 (orV .u32 v2 (shlV .u32 v4 (16:Int))) (shlV .u32 v6 (8:Int)))
 let v8:Int:=(IntKind.wrap .i64 ((IntKind.wrap .i64 ((4:Int) * t7)) + (3:Int)))
 bif (inR v8 t0.length) then
 let v9:Int:=(IntKind.wrap .u32 (at_ (.int .u8) t0 v8))
 bif (inR t7 64) then f234_l2 t0 k (IntKind.wrap .i64 (t7 + 1)) (b2g0.set (Int.toNat t7) (orV .u32 v7 v9)) else none
 else none
 else none
 else none
 else none
 else
 some ((),(),((b2g0,()),()))
def f234_l2_n (n:Nat) (x:f234_l2_head.den):=f234_l2 x.1.1 n x.1.2.1 x.2.2.1.1
def f234_l2_spec:LSpec:={ head:=f234_l2_head,outs:=f234_l2_outs,fn:=fun x=>f234_l2_n (((16:Int) - x.1.2.1).toNat + 1) x }
def f234_l7_head:Ann:={ env:=[(2,cP 2),(4,TI)],bxs:=[(2,.var [.ty (.arr 64 (.int .u32))])] }
def f234_l7_outs:List (Ex × Ann):=[((.exit 2),{ env:=[(2,cP 2)],bxs:=[(2,.var [.ty (.arr 64 (.int .u32))])] })]
def f234_l7:Nat→Int→(List Int)→Option (outDen f234_l7_outs)
 | 0,_,_=>none
 | k + 1,t4,b2g0 =>
 bif (decide (t4 < (64:Int))) then
 bif (inR (IntKind.wrap .i64 (t4 - (15:Int))) 64) then
 let v12:Int:=(at_ (.int .u32) b2g0 (IntKind.wrap .i64 (t4 - (15:Int))))
 bif (inR (IntKind.wrap .i64 (t4 - (2:Int))) 64) then
 let v13:Int:=(at_ (.int .u32) b2g0 (IntKind.wrap .i64 (t4 - (2:Int))))
 bif (inR (IntKind.wrap .i64 (t4 - (16:Int))) 64) then
 let v14:Int:=(at_ (.int .u32) b2g0 (IntKind.wrap .i64 (t4 - (16:Int))))
 (f235 v12 ([(7:Int),(18:Int)]:List Int)).bind fun y15 =>
 let v16:Int:=(xorV .u32 y15.1 (shrV .u32 v12 (3:Int)))
 bif (inR (IntKind.wrap .i64 (t4 - (7:Int))) 64) then
 let v17:Int:=(at_ (.int .u32) b2g0 (IntKind.wrap .i64 (t4 - (7:Int))))
 let v18:Int:=(IntKind.wrap .u32 ((IntKind.wrap .u32 (v14 + v16)) + v17))
 (f235 v13 ([(17:Int),(19:Int)]:List Int)).bind fun y19 =>
 let v20:Int:=(xorV .u32 y19.1 (shrV .u32 v13 (10:Int)))
 bif (inR t4 64) then f234_l7 k (IntKind.wrap .i64 (t4 + 1)) (b2g0.set (Int.toNat t4) (IntKind.wrap .u32 (v18 + v20))) else none
 else none
 else none
 else none
 else none
 else
 some ((),(),((b2g0,()),()))
def f234_l7_n (n:Nat) (x:f234_l7_head.den):=f234_l7 n x.1.1 x.2.2.1.1
def f234_l7_spec:LSpec:={ head:=f234_l7_head,outs:=f234_l7_outs,fn:=fun x=>f234_l7_n (((64:Int) - x.1.1).toNat + 1) x }
def f234 (a0:(List Int)):Option ((List Int) × Unit) :=
 (f234_l2 a0 (((16:Int) - (0:Int)).toNat + 1) (0:Int) (List.replicate 64 (0:Int))).bind fun o10 =>
 let u11:(List Int):=o10.2.2.1.1
 (f234_l7 (((64:Int) - (16:Int)).toNat + 1) (16:Int) u11).bind fun o21 =>
 let u22:(List Int):=o21.2.2.1.1
 some (u22,())
def f234_spec:PSpec:={ args:=[(.sl (.int .u8))],res:=[(.arr 64 (.int .u32))],fn:=fun x=>f234 x.1 }
noncomputable def f234_code:Code:=Tryz.f234.body.getD .skip
noncomputable def f234_env:Env0:={ C:=cfg,P:=[(235,f235_spec)],L:=[(⟨12,0,234,2⟩,f234_l2_spec),(⟨12,0,234,7⟩,f234_l7_spec)],F:=[(234,Tryz.f234)] }
theorem f234_l2_ok:LoopOK f234_env 12 234 0 (loopAt f234_code 2) f234_l2_spec :=
 loopOK_of (by kernel_rfl) f234_l2_n (fun x o h=>⟨_,h⟩) (fun x=>by kernel_rfl) (fun n x=>by kernel_rfl)
theorem f234_l7_ok:LoopOK f234_env 12 234 0 (loopAt f234_code 7) f234_l7_spec :=
 loopOK_of (by kernel_rfl) f234_l7_n (fun x o h=>⟨_,h⟩) (fun x=>by kernel_rfl) (fun n x=>by kernel_rfl)
theorem f234_run (x:tysDen (f234_spec).args):runF f234_env 234 Tryz.f234 f234_code (f234_spec).args (f234_spec).res x = f234_spec.fn x:=by kernel_rfl
theorem f234_enter:Enterable Tryz.prog 234:=enter_fun Tryz.func234 (by kernel_rfl)
theorem f234_envOK:EnvOK Tryz.prog f234_env:=envOK_of cds (by kernel_rfl) cfg_ok ⟨⟨f235_pure,f235_enter⟩,trivial⟩ trivial ⟨⟨Tryz.func234,by kernel_rfl⟩,trivial⟩ ⟨⟨Tryz.f234,f234_code,rfl,rfl,f234_l2_ok⟩,⟨Tryz.f234,f234_code,rfl,rfl,f234_l7_ok⟩,trivial⟩ trivial trivial
theorem f234_pure:PureOK Tryz.prog cfg 234 f234_spec:=pure_of_run f234_envOK (fn:=Tryz.f234) (c:=f234_code) rfl rfl f234_spec (fun x _ h=>(f234_run x).trans h)
def f222_l3_head:Ann:={ env:=[(0,cP 3),(4,cP 4),(5,cP 5),(18,.ty (.arr 64 (.int .u32))),(19,TI)],stk:=[[(0,cP 3)]],bxs:=[(3,.var [.ty (.arr 8 (.int .u32))]),(4,.var [.ty (.arr 64 (.int .u32))]),(5,.var [.ty (.arr 8 (.int .u32))])] }
def f222_l3_outs:List (Ex × Ann):=[((.exit 0),{ env:=[(0,cP 3),(5,cP 5)],stk:=[[(0,cP 3)]],bxs:=[(3,.var [.ty (.arr 8 (.int .u32))]),(5,.var [.ty (.arr 8 (.int .u32))])] })]
def f222_l3 (t18:(List Int)) (b3g0:(List Int)) (b4g0:(List Int)):Nat→Int→(List Int)→Option (outDen f222_l3_outs)
 | 0,_,_=>none
 | k + 1,t19,b5g0 =>
 bif (decide (t19 < (64:Int))) then
 bif (inR t19 64) then
 bif (inR (0:Int) 8) then
 bif (inR (4:Int) 8) then
 bif (inR (7:Int) 8) then
 (f235 (at_ (.int .u32) b5g0 (4:Int)) ([(6:Int),(11:Int),(25:Int)]:List Int)).bind fun y2 =>
 let v3:Int:=(IntKind.wrap .u32 ((at_ (.int .u32) b5g0 (7:Int)) + y2.1))
 bif (inR (5:Int) 8) then
 let v4:Int:=(andV .u32 (at_ (.int .u32) b5g0 (4:Int)) (at_ (.int .u32) b5g0 (5:Int)))
 let v5:Int:=(xorV .u32 (if IntKind.signed .u32 then -1 else IntKind.max .u32) (at_ (.int .u32) b5g0 (4:Int)))
 bif (inR (6:Int) 8) then
 let v6:Int:=(andV .u32 v5 (at_ (.int .u32) b5g0 (6:Int)))
 let v7:Int:=(IntKind.wrap .u32 (v3 + (xorV .u32 v4 v6)))
 let v8:Int:=(IntKind.wrap .u32 (v7 + (at_ (.int .u32) t18 t19)))
 bif (inR t19 64) then
 let v9:Int:=(IntKind.wrap .u32 (v8 + (at_ (.int .u32) b4g0 t19)))
 (f235 (at_ (.int .u32) b5g0 (0:Int)) ([(2:Int),(13:Int),(22:Int)]:List Int)).bind fun y10 =>
 bif (inR (1:Int) 8) then
 let v11:Int:=(andV .u32 (at_ (.int .u32) b5g0 (0:Int)) (at_ (.int .u32) b5g0 (1:Int)))
 bif (inR (2:Int) 8) then
 let v12:Int:=(andV .u32 (at_ (.int .u32) b5g0 (0:Int)) (at_ (.int .u32) b5g0 (2:Int)))
 bif (inR (1:Int) 8) then
 bif (inR (2:Int) 8) then
 let v13:Int:=(andV .u32 (at_ (.int .u32) b5g0 (1:Int)) (at_ (.int .u32) b5g0 (2:Int)))
 let v14:Int:=(IntKind.wrap .u32 (y10.1 + (xorV .u32 (xorV .u32 v11 v12) v13)))
 bif (cutOk 8 (some (1:Int)) none) then
 bif (cutOk 8 none (some (7:Int))) then
 let v15:Int:=(((((b5g0.drop 0).take (cutLen 8 none (some (7:Int)))).take (cutLen 8 (some (1:Int)) none)).length:Nat):Int)
 bif (inR (4:Int) 8) then
 let v16:Int:=(at_ (.int .u32) (setRange b5g0 (Int.toNat (1:Int)) (((b5g0.drop 0).take (cutLen 8 none (some (7:Int)))).take (cutLen 8 (some (1:Int)) none))) (4:Int))
 bif (inR (0:Int) 8) then bif (inR (4:Int) 8) then f222_l3 t18 b3g0 b4g0 k (IntKind.wrap .i64 (t19 + 1)) (((setRange b5g0 (Int.toNat (1:Int)) (((b5g0.drop 0).take (cutLen 8 none (some (7:Int)))).take (cutLen 8 (some (1:Int)) none))).set (Int.toNat (0:Int)) (IntKind.wrap .u32 (v9 + v14))).set (Int.toNat (4:Int)) (IntKind.wrap .u32 (v16 + v9))) else none else none
 else none
 else none
 else none
 else none
 else none
 else none
 else none
 else none
 else none
 else none
 else none
 else none
 else none
 else none
 else
 some ((),((),()),((b3g0,()),(b5g0,()),()))
def f222_l3_n (n:Nat) (x:f222_l3_head.den):=f222_l3 x.1.1 x.2.2.1.1 x.2.2.2.1.1 n x.1.2.1 x.2.2.2.2.1.1
def f222_l3_spec:LSpec:={ head:=f222_l3_head,outs:=f222_l3_outs,fn:=fun x=>f222_l3_n (((64:Int) - x.1.2.1).toNat + 1) x }
def f222_l12_head:Ann:={ env:=[(0,cP 3),(5,cP 5),(82,TI)],stk:=[[(0,cP 3)]],bxs:=[(3,.var [.ty (.arr 8 (.int .u32))]),(5,.var [.ty (.arr 8 (.int .u32))])] }
def f222_l12_outs:List (Ex × Ann):=[((.exit 2),{ env:=[],stk:=[[(0,cP 3)]],bxs:=[(3,.var [.ty (.arr 8 (.int .u32))])] })]
def f222_l12 (b5g0:(List Int)):Nat→Int→(List Int)→Option (outDen f222_l12_outs)
 | 0,_,_=>none
 | k + 1,t82,b3g0 =>
 bif (decide (t82 < (8:Int))) then
 bif (inR t82 8) then
 bif (inR t82 8) then
 let v20:Int:=(IntKind.wrap .u32 ((at_ (.int .u32) b3g0 t82) + (at_ (.int .u32) b5g0 t82)))
 bif (inR t82 8) then f222_l12 b5g0 k (IntKind.wrap .i64 (t82 + 1)) (b3g0.set (Int.toNat t82) v20) else none
 else none
 else none
 else
 some ((),((),()),((b3g0,()),()))
def f222_l12_n (n:Nat) (x:f222_l12_head.den):=f222_l12 x.2.2.2.1.1 n x.1.1 x.2.2.1.1
def f222_l12_spec:LSpec:={ head:=f222_l12_head,outs:=f222_l12_outs,fn:=fun x=>f222_l12_n (((8:Int) - x.1.1).toNat + 1) x }
abbrev f222_res:List Sh:=[]
abbrev f222_outs:List (Nat × BSh):=[(3,.var [.ty (.arr 8 (.int .u32))])]
def f222 (t1:(List Int)) (b3g0:(List Int)):Option (shDen f222_res × bxsDen f222_outs) :=
 (f234 t1).bind fun y1 =>
 (f222_l3 roundTable b3g0 y1.1 (((64:Int) - (0:Int)).toNat + 1) (0:Int) b3g0).bind fun o17 =>
 let u18:(List Int):=o17.2.2.1.1
 let u19:(List Int):=o17.2.2.2.1.1
 (f222_l12 u19 (((8:Int) - (0:Int)).toNat + 1) (0:Int) u18).bind fun o21 =>
 let u22:(List Int):=o21.2.2.1.1
 some ((),((u22,()),()))
def f222_spec:CSpec:={ args:=[(0,cP 3),(1,.ty (.sl (.int .u8)))],ins:=[(3,.var [.ty (.arr 8 (.int .u32))])],res:=f222_res,outs:=f222_outs,fn:=fun x=>f222 x.1.1 x.2.1.1 }
noncomputable def f222_code:Code:=Tryz.f222.body.getD .skip
noncomputable def f222_env:Env0:={ C:=cfg,P:=[(234,f234_spec),(235,f235_spec)],L:=[(⟨12,0,222,3⟩,f222_l3_spec),(⟨12,0,222,12⟩,f222_l12_spec)],F:=[(222,Tryz.f222)] }
theorem f222_l3_ok:LoopOK f222_env 12 222 0 (loopAt f222_code 3) f222_l3_spec :=
 loopOK_of (by kernel_rfl) f222_l3_n (fun x o h=>⟨_,h⟩) (fun x=>by kernel_rfl) (fun n x=>by kernel_rfl)
theorem f222_l12_ok:LoopOK f222_env 12 222 0 (loopAt f222_code 12) f222_l12_spec :=
 loopOK_of (by kernel_rfl) f222_l12_n (fun x o h=>⟨_,h⟩) (fun x=>by kernel_rfl) (fun n x=>by kernel_rfl)
theorem f222_run (x:envDen (f222_spec).args × bxsDen (f222_spec).ins):runS f222_env 222 Tryz.f222 f222_code (f222_spec) x = (f222_spec).fn x:=by kernel_rfl
theorem f222_enter:Enterable Tryz.prog 222:=enter_fun Tryz.func222 (by kernel_rfl)
theorem f222_envOK:EnvOK Tryz.prog f222_env:=envOK_of cds (by kernel_rfl) cfg_ok ⟨⟨f234_pure,f234_enter⟩,⟨f235_pure,f235_enter⟩,trivial⟩ trivial ⟨⟨Tryz.func222,by kernel_rfl⟩,trivial⟩ ⟨⟨Tryz.f222,f222_code,rfl,rfl,f222_l3_ok⟩,⟨Tryz.f222,f222_code,rfl,rfl,f222_l12_ok⟩,trivial⟩ trivial trivial
theorem f222_call:CallOK Tryz.prog cfg 222 f222_spec:=call_of_run f222_envOK (fn:=Tryz.f222) (c:=f222_code) rfl rfl f222_spec (by kernel_rfl) (fun x _ h=>(f222_run x).trans h)
def f223_l6_head:Ann:={ env:=[(3,cP 3),(4,TI),(5,.ty (.int .u32)),(7,.ty (.arr 8 (.int .u32))),(8,TI),(12,TI)],bxs:=[(3,.var [.ty (.arr 32 (.int .u8))])] }
def f223_l6_outs:List (Ex × Ann):=[((.exit 2),{ env:=[(3,cP 3),(7,.ty (.arr 8 (.int .u32))),(8,TI)],bxs:=[(3,.var [.ty (.arr 32 (.int .u8))])] })]
def f223_l6 (t4:Int) (t5:Int) (t7:(List Int)) (t8:Int):Nat→Int→(List Int)→Option (outDen f223_l6_outs)
 | 0,_,_=>none
 | k + 1,t12,b3g0 =>
 bif (decide (t12 < (4:Int))) then
 let v1:Int:=(IntKind.wrap .i64 ((IntKind.wrap .i64 ((4:Int) * t4)) + t12))
 let v2:Int:=(IntKind.wrap .i64 ((24:Int) - (IntKind.wrap .i64 ((8:Int) * t12))))
 bif (decide (0≤v2)) then bif (inR v1 32) then f223_l6 t4 t5 t7 t8 k (IntKind.wrap .i64 (t12 + 1)) (b3g0.set (Int.toNat v1) (IntKind.wrap .u8 (shrV .u32 t5 v2))) else none else none
 else
 some ((t7,t8,()),(),((b3g0,()),()))
def f223_l6_n (n:Nat) (x:f223_l6_head.den):=f223_l6 x.1.1 x.1.2.1 x.1.2.2.1 x.1.2.2.2.1 n x.1.2.2.2.2.1 x.2.2.1.1
def f223_l6_spec:LSpec:={ head:=f223_l6_head,outs:=f223_l6_outs,fn:=fun x=>f223_l6_n (((4:Int) - x.1.2.2.2.2.1).toNat + 1) x }
def f223_l3_head:Ann:={ env:=[(3,cP 3),(7,.ty (.arr 8 (.int .u32))),(8,TI)],bxs:=[(3,.var [.ty (.arr 32 (.int .u8))])] }
def f223_l3_outs:List (Ex × Ann):=[((.exit 0),{ env:=[(3,cP 3)],bxs:=[(3,.var [.ty (.arr 32 (.int .u8))])] })]
def f223_l3:Nat→(List Int)→Int→(List Int)→Option (outDen f223_l3_outs)
 | 0,_,_,_=>none
 | k + 1,t7,t8,b3g0 =>
 bif (decide (t8 < (8:Int))) then
 bif (inR t8 8) then
 (f223_l6 t8 (at_ (.int .u32) t7 t8) t7 t8 (((4:Int) - (0:Int)).toNat + 1) (0:Int) b3g0).bind fun o3 =>
 let u4:(List Int):=o3.1.1
 let u5:Int:=o3.1.2.1
 let u6:(List Int):=o3.2.2.1.1
 f223_l3 k u4 (IntKind.wrap .i64 (u5 + 1)) u6
 else none
 else
 some ((),(),((b3g0,()),()))
def f223_l3_n (n:Nat) (x:f223_l3_head.den):=f223_l3 n x.1.1 x.1.2.1 x.2.2.1.1
def f223_l3_spec:LSpec:={ head:=f223_l3_head,outs:=f223_l3_outs,fn:=fun x=>f223_l3_n (((8:Int) - x.1.2.1).toNat + 1) x }
def f223 (a0:(List Int)):Option (ByteArray × Unit) :=
 (f223_l3 (((8:Int) - (0:Int)).toNat + 1) a0 (0:Int) (List.replicate 32 (0:Int))).bind fun o7 =>
 let u8:(List Int):=o7.2.2.1.1
 let v9:ByteArray:=(ofBytes ((u8.drop 0).take (cutLen 32 none none)))
 some (v9,())
def f223_spec:PSpec:={ args:=[(.arr 8 (.int .u32))],res:=[.str],fn:=fun x=>f223 x.1 }
noncomputable def f223_code:Code:=Tryz.f223.body.getD .skip
noncomputable def f223_env:Env0:={ C:=cfg,P:=[],L:=[(⟨12,0,223,6⟩,f223_l6_spec),(⟨12,0,223,3⟩,f223_l3_spec)],F:=[(223,Tryz.f223)] }
theorem f223_l6_ok:LoopOK f223_env 12 223 0 (loopAt f223_code 6) f223_l6_spec :=
 loopOK_of (by kernel_rfl) f223_l6_n (fun x o h=>⟨_,h⟩) (fun x=>by kernel_rfl) (fun n x=>by kernel_rfl)
theorem f223_l3_ok:LoopOK f223_env 12 223 0 (loopAt f223_code 3) f223_l3_spec :=
 loopOK_of (by kernel_rfl) f223_l3_n (fun x o h=>⟨_,h⟩) (fun x=>by kernel_rfl) (fun n x=>by kernel_rfl)
theorem f223_run (x:tysDen (f223_spec).args):runF f223_env 223 Tryz.f223 f223_code (f223_spec).args (f223_spec).res x = f223_spec.fn x:=by kernel_rfl
theorem f223_enter:Enterable Tryz.prog 223:=enter_fun Tryz.func223 (by kernel_rfl)
theorem f223_envOK:EnvOK Tryz.prog f223_env:=envOK_of cds (by kernel_rfl) cfg_ok trivial trivial ⟨⟨Tryz.func223,by kernel_rfl⟩,trivial⟩ ⟨⟨Tryz.f223,f223_code,rfl,rfl,f223_l6_ok⟩,⟨Tryz.f223,f223_code,rfl,rfl,f223_l3_ok⟩,trivial⟩ trivial trivial
theorem f223_pure:PureOK Tryz.prog cfg 223 f223_spec:=pure_of_run f223_envOK (fn:=Tryz.f223) (c:=f223_code) rfl rfl f223_spec (fun x _ h=>(f223_run x).trans h)
def f191_l3_head:Ann:={ env:=[(0,.ty .str),(3,cP 3),(4,.cst (.row 9 .whole))],bxs:=[(3,.var [.ty (.arr 8 (.int .u32))]),(9,.row (.int .u8) false)] }
def f191_l3_outs:List (Ex × Ann):=[((.exit 0),{ env:=[(0,.ty .str),(3,cP 3),(4,.cst (.row 9 .whole))],bxs:=[(3,.var [.ty (.arr 8 (.int .u32))]),(9,.row (.int .u8) false)] })]
def f191_l3 (t0:ByteArray) (b3g0:(List Int)):Nat→(List Int)→Option (outDen f191_l3_outs)
 | 0,_=>none
 | k + 1,r9 =>
 let v2:Bool:=(decide ((Int.tmod (r9.length:Int) (64:Int)) ≠ (56:Int)))
 bif v2 then
 bif (decide (r9.length + ([(0:Int)]:List Int).length≤appLim)) then f191_l3 t0 b3g0 k (r9++([(0:Int)]:List Int)) else none
 else
 some ((t0,()),(),((b3g0,()),r9,()))
def f191_l3_n (n:Nat) (x:f191_l3_head.den):=f191_l3 x.1.1 x.2.2.1.1 n x.2.2.2.1
def f191_l3_spec:LSpec:={ head:=f191_l3_head,outs:=f191_l3_outs,fn:=fun x=>f191_l3_n ((64:Nat)) x }
def f191_l6_head:Ann:={ env:=[(0,.ty .str),(3,cP 3),(4,.cst (.row 9 .whole)),(5,TI)],bxs:=[(3,.var [.ty (.arr 8 (.int .u32))]),(9,.row (.int .u8) false)] }
def f191_l6_outs:List (Ex × Ann):=[((.exit 2),{ env:=[(3,cP 3),(4,.cst (.row 9 .whole))],bxs:=[(3,.var [.ty (.arr 8 (.int .u32))]),(9,.row (.int .u8) false)] })]
def f191_l6 (t0:ByteArray) (b3g0:(List Int)):Nat→Int→(List Int)→Option (outDen f191_l6_outs)
 | 0,_,_=>none
 | k + 1,t5,r9 =>
 bif (decide (t5 ≥ (0:Int))) then
 let v7:Int:=(IntKind.wrap .i64 ((8:Int) * (t0.size:Int)))
 bif (decide (0≤(IntKind.wrap .i64 ((8:Int) * t5)))) then
 let v8:Int:=(shrV .i64 v7 (IntKind.wrap .i64 ((8:Int) * t5)))
 bif (decide (r9.length + ([(IntKind.wrap .u8 v8)]:List Int).length≤appLim)) then f191_l6 t0 b3g0 k (IntKind.wrap .i64 (t5 - (1:Int))) (r9++([(IntKind.wrap .u8 v8)]:List Int)) else none
 else none
 else
 some ((),(),((b3g0,()),r9,()))
def f191_l6_n (n:Nat) (x:f191_l6_head.den):=f191_l6 x.1.1 x.2.2.1.1 n x.1.2.1 x.2.2.2.1
def f191_l6_spec:LSpec:={ head:=f191_l6_head,outs:=f191_l6_outs,fn:=fun x=>f191_l6_n ((x.1.2.1 + 1).toNat + 1) x }
def f233_l1x_head:Ann:={ env:=[(0,.cst (.yld 910)),(1,cP 34002),(2,cP 34003),(4,TI)],stk:=[[(0,.cst (.yld 910))],[(3,cP 3)]],bxs:=[(910,.loop false 191 10 [(3,cP 3)]),(34002,.var [.ty (.sl (.int .u8))]),(34003,.var [TI]),(3,.var [.ty (.arr 8 (.int .u32))])] }
def f233_l1x_outs:List (Ex × Ann):=[((.exit 0),{ env:=[],stk:=[[(0,.cst (.yld 910))],[(3,cP 3)]],bxs:=[(910,.loop false 191 10 [(3,cP 3)]),(3,.var [.ty (.arr 8 (.int .u32))])] })]
def f233_l1x (b34002g0:(List Int)) (b34003g0:Int):Nat→Int→(List Int)→Option (outDen f233_l1x_outs)
 | 0,_,_=>none
 | k + 1,t4,b3g0 =>
 bif (decide (t4 < (b34002g0.length:Int))) then
 bif (cutOk b34002g0.length (some t4) none) then
 let v12:Int:=((b34002g0.drop (Int.toNat t4)).length:Int)
 let v13:Int:=(if v12 < b34003g0 then v12 else b34003g0)
 bif ((cutOk b34002g0.length (some t4) (some (IntKind.wrap .i64 (t4 + v13)))) && decide ((IntKind.wrap .i64 (t4 + v13)) = (IntKind.wrap .i64 (t4 + v13)))) then
 (f222 ((b34002g0.take (Int.toNat (IntKind.wrap .i64 (t4 + v13)))).drop (Int.toNat t4)) b3g0).bind fun y14 =>
 let u15:(List Int):=y14.2.1.1
 f233_l1x b34002g0 b34003g0 k (IntKind.wrap .i64 (t4 + b34003g0)) u15
 else none
 else none
 else
 some ((),((),(),()),((),(b3g0,()),()))
def f233_l1x_n (n:Nat) (x:f233_l1x_head.den):=f233_l1x x.2.2.2.1.1 x.2.2.2.2.1.1 n x.1.1 x.2.2.2.2.2.1.1
def f233_l1x_spec:LSpec:={ head:=f233_l1x_head,outs:=f233_l1x_outs,fn:=fun x=>f233_l1x_n (((x.2.2.2.1.1.length:Int) - x.1.1).toNat + 1) x }
def f191 (a0:ByteArray):Option (ByteArray × Unit) :=
 let v1:(List Int):=([(1779033703:Int),(3144134277:Int),(1013904242:Int),(2773480762:Int),(1359893119:Int),(2600822924:Int),(528734635:Int),(1541459225:Int)]:List Int)
 bif (decide ((toBytes a0).length + ([(128:Int)]:List Int).length≤appLim)) then
 (f191_l3 a0 v1 ((64:Nat)) ((toBytes a0)++([(128:Int)]:List Int))).bind fun o3 =>
 let u4:ByteArray:=o3.1.1
 let u5:(List Int):=o3.2.2.1.1
 let u6:(List Int):=o3.2.2.2.1
 (f191_l6 u4 u5 (((7:Int) + 1).toNat + 1) (7:Int) u6).bind fun o9 =>
 let u10:(List Int):=o9.2.2.1.1
 let u11:(List Int):=o9.2.2.2.1
 (f233_l1x u11 (64:Int) (((u11.length:Int) - (0:Int)).toNat + 1) (0:Int) u10).bind fun o16 =>
 let u17:(List Int):=o16.2.2.2.1.1
 (f223 u17).bind fun y18 =>
 some (y18.1,())
 else none
def f191_spec:PSpec:={ args:=[.str],res:=[.str],fn:=fun x=>f191 x.1 }
noncomputable def f191_code:Code:=Tryz.f191.body.getD .skip
noncomputable def f191_code_233:Code:=Tryz.f233.body.getD .skip
noncomputable def f191_env:Env0:={ C:=cfg,P:=[(223,f223_spec)],L:=[(⟨12,0,191,3⟩,f191_l3_spec),(⟨12,0,191,6⟩,f191_l6_spec),(⟨11,910000,233,1⟩,f233_l1x_spec)],F:=[(191,Tryz.f191),(221,Tryz.f221),(233,Tryz.f233)],S:=[(222,f222_spec)] }
theorem f191_l3_ok:LoopOK f191_env 12 191 0 (loopAt f191_code 3) f191_l3_spec :=
 loopOK_of (by kernel_rfl) f191_l3_n (fun x o h=>⟨_,h⟩) (fun x=>by kernel_rfl) (fun n x=>by kernel_rfl)
theorem f191_l6_ok:LoopOK f191_env 12 191 0 (loopAt f191_code 6) f191_l6_spec :=
 loopOK_of (by kernel_rfl) f191_l6_n (fun x o h=>⟨_,h⟩) (fun x=>by kernel_rfl) (fun n x=>by kernel_rfl)
theorem f233_l1x_ok:LoopOK f191_env 11 233 910000 (loopAt f191_code_233 1) f233_l1x_spec :=
 loopOK_of (by kernel_rfl) f233_l1x_n (fun x o h=>⟨_,h⟩) (fun x=>by kernel_rfl) (fun n x=>by kernel_rfl)
theorem f191_run (x:tysDen (f191_spec).args):runF f191_env 191 Tryz.f191 f191_code (f191_spec).args (f191_spec).res x = f191_spec.fn x:=by kernel_rfl
theorem f191_enter:Enterable Tryz.prog 191:=enter_fun Tryz.func191 (by kernel_rfl)
theorem f191_envOK:EnvOK Tryz.prog f191_env:=envOK_of cds (by kernel_rfl) cfg_ok ⟨⟨f223_pure,f223_enter⟩,trivial⟩ ⟨⟨f222_call,by kernel_rfl,f222_enter⟩,trivial⟩ ⟨⟨Tryz.func191,by kernel_rfl⟩,⟨Tryz.func221,by kernel_rfl⟩,⟨Tryz.func233,by kernel_rfl⟩,trivial⟩ ⟨⟨Tryz.f191,f191_code,rfl,rfl,f191_l3_ok⟩,⟨Tryz.f191,f191_code,rfl,rfl,f191_l6_ok⟩,⟨Tryz.f233,f191_code_233,rfl,rfl,f233_l1x_ok⟩,trivial⟩ trivial trivial
theorem f191_pure:PureOK Tryz.prog cfg 191 f191_spec:=pure_of_run f191_envOK (fn:=Tryz.f191) (c:=f191_code) rfl rfl f191_spec (fun x _ h=>(f191_run x).trans h)
def f136 (a0:Int) (a1:ByteArray):Option (ByteArray × Unit) :=
 bif (decide (a1 = (⟨#[]⟩:ByteArray))) then
 (f135 ).bind fun y1 =>
 some (y1.1,())
 else
 (f168 a0).bind fun y2 =>
 bif (catOk (⟨#[8]⟩:ByteArray) y2.1) then
 bif (catOk ((⟨#[8]⟩:ByteArray)++y2.1) a1) then
 (f191 (((⟨#[8]⟩:ByteArray)++y2.1)++a1)).bind fun y3 =>
 some (y3.1,())
 else none
 else none
def f136_spec:PSpec:={ args:=[tI,.str],res:=[.str],fn:=fun x=>f136 x.1 x.2.1 }
noncomputable def f136_code:Code:=Tryz.f136.body.getD .skip
noncomputable def f136_env:Env0:={ C:=cfg,P:=[(135,f135_spec),(168,f168_spec),(191,f191_spec)],L:=[],F:=[(136,Tryz.f136)] }
theorem f136_run (x:tysDen (f136_spec).args):runF f136_env 136 Tryz.f136 f136_code (f136_spec).args (f136_spec).res x = f136_spec.fn x:=by kernel_rfl
theorem f136_enter:Enterable Tryz.prog 136:=enter_fun Tryz.func136 (by kernel_rfl)
theorem f136_envOK:EnvOK Tryz.prog f136_env:=envOK_of cds (by kernel_rfl) cfg_ok ⟨⟨f135_pure,f135_enter⟩,⟨f168_pure,f168_enter⟩,⟨f191_pure,f191_enter⟩,trivial⟩ trivial ⟨⟨Tryz.func136,by kernel_rfl⟩,trivial⟩ trivial trivial trivial
theorem f136_pure:PureOK Tryz.prog cfg 136 f136_spec:=pure_of_run f136_envOK (fn:=Tryz.f136) (c:=f136_code) rfl rfl f136_spec (fun x _ h=>(f136_run x).trans h)
def f137 (a0:ByteArray) (a1:ByteArray):Option (ByteArray × Unit) :=
 (f135 ).bind fun y1 =>
 bif (decide (a0 = y1.1)) then
 (f135 ).bind fun y2 =>
 bif (decide (a1 = y2.1)) then
 (f135 ).bind fun y3 =>
 some (y3.1,())
 else
 bif (catOk (⟨#[9]⟩:ByteArray) a0) then
 bif (catOk ((⟨#[9]⟩:ByteArray)++a0) a1) then
 (f191 (((⟨#[9]⟩:ByteArray)++a0)++a1)).bind fun y4 =>
 some (y4.1,())
 else none
 else none
 else
 bif (catOk (⟨#[9]⟩:ByteArray) a0) then
 bif (catOk ((⟨#[9]⟩:ByteArray)++a0) a1) then
 (f191 (((⟨#[9]⟩:ByteArray)++a0)++a1)).bind fun y5 =>
 some (y5.1,())
 else none
 else none
def f137_spec:PSpec:={ args:=[.str,.str],res:=[.str],fn:=fun x=>f137 x.1 x.2.1 }
noncomputable def f137_code:Code:=Tryz.f137.body.getD .skip
noncomputable def f137_env:Env0:={ C:=cfg,P:=[(135,f135_spec),(191,f191_spec)],L:=[],F:=[(137,Tryz.f137)] }
theorem f137_run (x:tysDen (f137_spec).args):runF f137_env 137 Tryz.f137 f137_code (f137_spec).args (f137_spec).res x = f137_spec.fn x:=by kernel_rfl
theorem f137_enter:Enterable Tryz.prog 137:=enter_fun Tryz.func137 (by kernel_rfl)
theorem f137_envOK:EnvOK Tryz.prog f137_env:=envOK_of cds (by kernel_rfl) cfg_ok ⟨⟨f135_pure,f135_enter⟩,⟨f191_pure,f191_enter⟩,trivial⟩ trivial ⟨⟨Tryz.func137,by kernel_rfl⟩,trivial⟩ trivial trivial trivial
theorem f137_pure:PureOK Tryz.prog cfg 137 f137_spec:=pure_of_run f137_envOK (fn:=Tryz.f137) (c:=f137_code) rfl rfl f137_spec (fun x _ h=>(f137_run x).trans h)
def f88_l3_b8000_head:Ann:={ env:=[(0,.ty (.sl tN)),(3,cP 8009),(10,TI)],stk:=[[(2,.ty .str),(3,TI)]],bxs:=[(8009,.var [.ty (.arr 128 .str)])] }
def f88_l3_b8000_outs:List (Ex × Ann):=[((.exit 0),{ env:=[(0,.ty (.sl tN)),(3,cP 8009)],stk:=[[(2,.ty .str),(3,TI)]],bxs:=[(8009,.var [.ty (.arr 128 .str)])] })]
def f88_l3_b8000 (t0:(List En)) (k0t2:ByteArray) (k0t3:Int):Nat→Int→(List ByteArray)→Option (outDen f88_l3_b8000_outs)
 | 0,_,_=>none
 | k + 1,t10,b8009g0 =>
 bif (decide (t10 < (64:Int))) then
 (f135 ).bind fun y2 =>
 bif (inR (IntKind.wrap .i64 ((64:Int) + t10)) 128) then f88_l3_b8000 t0 k0t2 k0t3 k (IntKind.wrap .i64 (t10 + 1)) (b8009g0.set (Int.toNat (IntKind.wrap .i64 ((64:Int) + t10))) y2.1) else none
 else
 some ((t0,()),((k0t2,k0t3,()),()),((b8009g0,()),()))
def f88_l3_b8000_n (n:Nat) (x:f88_l3_b8000_head.den):=f88_l3_b8000 x.1.1 x.2.1.1.1 x.2.1.1.2.1 n x.1.2.1 x.2.2.1.1
def f88_l3_b8000_spec:LSpec:={ head:=f88_l3_b8000_head,outs:=f88_l3_b8000_outs,fn:=fun x=>f88_l3_b8000_n (((64:Int) - x.1.2.1).toNat + 1) x }
def f88_l8_b8000_head:Ann:={ env:=[(3,cP 8009),(20,.ty (.sl tN)),(21,TI),(22,TI)],stk:=[[(2,.ty .str),(3,TI)]],bxs:=[(8009,.var [.ty (.arr 128 .str)])] }
def f88_l8_b8000_outs:List (Ex × Ann):=[((.exit 2),{ env:=[(3,cP 8009)],stk:=[[(2,.ty .str),(3,TI)]],bxs:=[(8009,.var [.ty (.arr 128 .str)])] })]
def f88_l8_b8000 (t20:(List En)) (t21:Int) (k0t2:ByteArray) (k0t3:Int):Nat→Int→(List ByteArray)→Option (outDen f88_l8_b8000_outs)
 | 0,_,_=>none
 | k + 1,t22,b8009g0 =>
 bif (decide (t22 < t21)) then
 bif (inR t22 t20.length) then
 let v8:Int:=(at_ tN t20 t22).1
 let v9:Int:=(at_ tN t20 t22).1
 let v10:ByteArray:=(at_ tN t20 t22).2.1
 (f136 v9 v10).bind fun y11 =>
 bif (inR (IntKind.wrap .i64 ((64:Int) + v8)) 128) then f88_l8_b8000 t20 t21 k0t2 k0t3 k (IntKind.wrap .i64 (t22 + 1)) (b8009g0.set (Int.toNat (IntKind.wrap .i64 ((64:Int) + v8))) y11.1) else none
 else none
 else
 some ((),((k0t2,k0t3,()),()),((b8009g0,()),()))
def f88_l8_b8000_n (n:Nat) (x:f88_l8_b8000_head.den):=f88_l8_b8000 x.1.1 x.1.2.1 x.2.1.1.1 x.2.1.1.2.1 n x.1.2.2.1 x.2.2.1.1
def f88_l8_b8000_spec:LSpec:={ head:=f88_l8_b8000_head,outs:=f88_l8_b8000_outs,fn:=fun x=>f88_l8_b8000_n ((x.1.2.1 - x.1.2.2.1).toNat + 1) x }
def f88_l13_b8000_head:Ann:={ env:=[(3,cP 8009),(7,TI)],stk:=[[(2,.ty .str),(3,TI)]],bxs:=[(8009,.var [.ty (.arr 128 .str)])] }
def f88_l13_b8000_outs:List (Ex × Ann):=[((.exit 4),{ env:=[(3,cP 8009)],stk:=[[(2,.ty .str),(3,TI)]],bxs:=[(8009,.var [.ty (.arr 128 .str)])] })]
def f88_l13_b8000 (k0t2:ByteArray) (k0t3:Int):Nat→Int→(List ByteArray)→Option (outDen f88_l13_b8000_outs)
 | 0,_,_=>none
 | k + 1,t7,b8009g0 =>
 bif (decide (t7 > (0:Int))) then
 bif (inR (IntKind.wrap .i64 ((2:Int) * t7)) 128) then
 let v16:ByteArray:=(at_ .str b8009g0 (IntKind.wrap .i64 ((2:Int) * t7)))
 let v17:Int:=(IntKind.wrap .i64 ((IntKind.wrap .i64 ((2:Int) * t7)) + 1))
 bif (inR v17 128) then
 (f137 v16 (at_ .str b8009g0 v17)).bind fun y18 =>
 bif (inR t7 128) then f88_l13_b8000 k0t2 k0t3 k (IntKind.wrap .i64 (t7 - (1:Int))) (b8009g0.set (Int.toNat t7) y18.1) else none
 else none
 else none
 else
 some ((),((k0t2,k0t3,()),()),((b8009g0,()),()))
def f88_l13_b8000_n (n:Nat) (x:f88_l13_b8000_head.den):=f88_l13_b8000 x.2.1.1.1 x.2.1.1.2.1 n x.1.1 x.2.2.1.1
def f88_l13_b8000_spec:LSpec:={ head:=f88_l13_b8000_head,outs:=f88_l13_b8000_outs,fn:=fun x=>f88_l13_b8000_n (x.1.1.toNat + 1) x }
def f39 (a0:(List En)):Option (ByteArray × Int × Unit) :=
 (f87 a0).bind fun y1 =>
 bif (!y1.1) then
 some ((⟨#[]⟩:ByteArray),(40:Int),())
 else
 (f88_l3_b8000 a0 (⟨#[]⟩:ByteArray) (0:Int) (((64:Int) - (0:Int)).toNat + 1) (0:Int) (List.replicate 128 (⟨#[]⟩:ByteArray))).bind fun o3 =>
 let u4:(List En):=o3.1.1
 let u5:ByteArray:=o3.2.1.1.1
 let u6:Int:=o3.2.1.1.2.1
 let u7:(List ByteArray):=o3.2.2.1.1
 (f88_l8_b8000 u4 (u4.length:Int) u5 u6 (((u4.length:Int) - (0:Int)).toNat + 1) (0:Int) u7).bind fun o12 =>
 let u13:ByteArray:=o12.2.1.1.1
 let u14:Int:=o12.2.1.1.2.1
 let u15:(List ByteArray):=o12.2.2.1.1
 (f88_l13_b8000 u13 u14 ((63:Int).toNat + 1) (63:Int) u15).bind fun o19 =>
 let u22:(List ByteArray):=o19.2.2.1.1
 bif (inR (1:Int) 128) then some ((at_ .str u22 (1:Int)),(0:Int),()) else none
def f39_spec:PSpec:={ args:=[(.sl tN)],res:=[.str,tI],fn:=fun x=>f39 x.1 }
noncomputable def f39_code:Code:=Tryz.f39.body.getD .skip
noncomputable def f39_code_88:Code:=Tryz.f88.body.getD .skip
noncomputable def f39_env:Env0:={ C:=cfg,P:=[(87,f87_spec),(135,f135_spec),(136,f136_spec),(137,f137_spec)],L:=[(⟨11,8000,88,3⟩,f88_l3_b8000_spec),(⟨11,8000,88,8⟩,f88_l8_b8000_spec),(⟨11,8000,88,13⟩,f88_l13_b8000_spec)],F:=[(39,Tryz.f39),(88,Tryz.f88)] }
theorem f88_l3_b8000_ok:LoopOK f39_env 11 88 8000 (loopAt f39_code_88 3) f88_l3_b8000_spec :=
 loopOK_of (by kernel_rfl) f88_l3_b8000_n (fun x o h=>⟨_,h⟩) (fun x=>by kernel_rfl) (fun n x=>by kernel_rfl)
theorem f88_l8_b8000_ok:LoopOK f39_env 11 88 8000 (loopAt f39_code_88 8) f88_l8_b8000_spec :=
 loopOK_of (by kernel_rfl) f88_l8_b8000_n (fun x o h=>⟨_,h⟩) (fun x=>by kernel_rfl) (fun n x=>by kernel_rfl)
theorem f88_l13_b8000_ok:LoopOK f39_env 11 88 8000 (loopAt f39_code_88 13) f88_l13_b8000_spec :=
 loopOK_of (by kernel_rfl) f88_l13_b8000_n (fun x o h=>⟨_,h⟩) (fun x=>by kernel_rfl) (fun n x=>by kernel_rfl)
theorem f39_run (x:tysDen (f39_spec).args):runF f39_env 39 Tryz.f39 f39_code (f39_spec).args (f39_spec).res x = f39_spec.fn x:=by kernel_rfl
theorem f39_enter:Enterable Tryz.prog 39:=enter_fun Tryz.func39 (by kernel_rfl)
theorem f39_envOK:EnvOK Tryz.prog f39_env:=envOK_of cds (by kernel_rfl) cfg_ok ⟨⟨f87_pure,f87_enter⟩,⟨f135_pure,f135_enter⟩,⟨f136_pure,f136_enter⟩,⟨f137_pure,f137_enter⟩,trivial⟩ trivial ⟨⟨Tryz.func39,by kernel_rfl⟩,⟨Tryz.func88,by kernel_rfl⟩,trivial⟩ ⟨⟨Tryz.f88,f39_code_88,rfl,rfl,f88_l3_b8000_ok⟩,⟨Tryz.f88,f39_code_88,rfl,rfl,f88_l8_b8000_ok⟩,⟨Tryz.f88,f39_code_88,rfl,rfl,f88_l13_b8000_ok⟩,trivial⟩ trivial trivial
theorem f39_pure:PureOK Tryz.prog cfg 39 f39_spec:=pure_of_run f39_envOK (fn:=Tryz.f39) (c:=f39_code) rfl rfl f39_spec (fun x _ h=>(f39_run x).trans h)
def f15 (a0:Gr):Option (ByteArray × Int × Unit) :=
 (f13 a0).bind fun y1 =>
 bif (decide (y1.2.1 ≠ (0:Int))) then
 some ((⟨#[]⟩:ByteArray),y1.2.1,())
 else
 (f39 y1.1).bind fun y2 =>
 bif (decide (y2.2.1 ≠ (0:Int))) then
 some ((⟨#[]⟩:ByteArray),(60:Int),())
 else
 some (y2.1,(0:Int),())
def f15_spec:PSpec:={ args:=[tG],res:=[.str,tI],fn:=fun x=>f15 x.1 }
noncomputable def f15_code:Code:=Tryz.f15.body.getD .skip
noncomputable def f15_env:Env0:={ C:=cfg,P:=[(13,f13_spec),(39,f39_spec)],L:=[],F:=[(15,Tryz.f15)] }
theorem f15_run (x:tysDen (f15_spec).args):runF f15_env 15 Tryz.f15 f15_code (f15_spec).args (f15_spec).res x = f15_spec.fn x:=by kernel_rfl
theorem f15_enter:Enterable Tryz.prog 15:=enter_fun Tryz.func15 (by kernel_rfl)
theorem f15_envOK:EnvOK Tryz.prog f15_env:=envOK_of cds (by kernel_rfl) cfg_ok ⟨⟨f13_pure,f13_enter⟩,⟨f39_pure,f39_enter⟩,trivial⟩ trivial ⟨⟨Tryz.func15,by kernel_rfl⟩,trivial⟩ trivial trivial trivial
theorem f15_pure:PureOK Tryz.prog cfg 15 f15_spec:=pure_of_run f15_envOK (fn:=Tryz.f15) (c:=f15_code) rfl rfl f15_spec (fun x _ h=>(f15_run x).trans h)
def f115_l2x_head:Ann:={ env:=[(0,.ty (.sl tV)),(1,.cst (.fn 116 [(.ptr 3 0 [])])),(7,TI),(8,TI)],stk:=[[(2,cP 2),(4,cP 4),(5,.ty .bool)]],bxs:=[(3,.var [TI]),(2,.var [.ty (.sl tV),.ty (.sl tE),.ty (.sl tI)]),(4,.var [TI,TI])] }
def f115_l2x_outs:List (Ex × Ann):=[((.exit 0),{ env:=[],stk:=[[(2,cP 2),(4,cP 4),(5,.ty .bool)]],bxs:=[(2,.var [.ty (.sl tV),.ty (.sl tE),.ty (.sl tI)]),(4,.var [TI,TI])] }),(.ret,{ env:=[(4,TI)],stk:=[[(2,cP 2),(4,cP 4),(5,.ty .bool)]],bxs:=[(2,.var [.ty (.sl tV),.ty (.sl tE),.ty (.sl tI)]),(4,.var [TI,TI])] })]
def f115_l2x (t0:(List Vx)) (t7:Int) (k0t5:Bool) (b3g0:Int) (b2g0:(List Vx)) (b2g1:(List Ed)) (b2g2:(List Int)) (b4g0:Int) (b4g1:Int):Nat→Int→Option (outDen f115_l2x_outs)
 | 0,_=>none
 | k + 1,t8 =>
 bif (decide (t8 < t7)) then
 bif (inR t8 t0.length) then
 let v1:Int:=(at_ tV t0 t8).1
 bif (decide (v1 = b3g0)) then
 some (.inr ((t8,()),((k0t5,()),()),((b2g0,b2g1,b2g2,()),(b4g0,b4g1,()),())))
 else
 f115_l2x t0 t7 k0t5 b3g0 b2g0 b2g1 b2g2 b4g0 b4g1 k (IntKind.wrap .i64 (t8 + 1))
 else none
 else
 some (.inl ((),((k0t5,()),()),((b2g0,b2g1,b2g2,()),(b4g0,b4g1,()),())))
def f115_l2x_n (n:Nat) (x:f115_l2x_head.den):=f115_l2x x.1.1 x.1.2.1 x.2.1.1.1 x.2.2.1.1 x.2.2.2.1.1 x.2.2.2.1.2.1 x.2.2.2.1.2.2.1 x.2.2.2.2.1.1 x.2.2.2.2.1.2.1 n x.1.2.2.1
def f115_l2x_spec:LSpec:={ head:=f115_l2x_head,outs:=f115_l2x_outs,fn:=fun x=>f115_l2x_n ((x.1.2.1 - x.1.2.2.1).toNat + 1) x }
def f53 (a0:Gr) (a1:Int):Option (Vx × Bool × Unit) :=
 (f115_l2x a0.1 (a0.1.length:Int) false a1 a0.1 a0.2.1 a0.2.2.1 0 0 (((a0.1.length:Int) - (0:Int)).toNat + 1) (0:Int)).bind fun o2 =>
 Sum.elim (fun o3 =>
 some ((0,(0,())),false,())) (fun o4 =>
 let u11:Int:=o4.1.1
 let u13:(List Vx):=o4.2.2.1.1
 let u14:(List Ed):=o4.2.2.1.2.1
 let u15:(List Int):=o4.2.2.1.2.2.1
 bif (decide (u11 < (0:Int))) then
 some ((0,(0,())),false,())
 else
 (f46 (u13,(u14,(u15,())))).bind fun y18 =>
 bif (!y18.1) then
 some ((0,(0,())),false,())
 else
 bif (inR u11 u13.length) then some ((at_ tV u13 u11),true,()) else none) o2
def f53_spec:PSpec:={ args:=[tG,tI],res:=[tV,.bool],fn:=fun x=>f53 x.1 x.2.1 }
noncomputable def f53_code:Code:=Tryz.f53.body.getD .skip
noncomputable def f53_code_115:Code:=Tryz.f115.body.getD .skip
noncomputable def f53_env:Env0:={ C:=cfg,P:=[(46,f46_spec)],L:=[(⟨11,10000,115,2⟩,f115_l2x_spec)],F:=[(53,Tryz.f53),(115,Tryz.f115),(116,Tryz.f116)] }
theorem f115_l2x_ok:LoopOK f53_env 11 115 10000 (loopAt f53_code_115 2) f115_l2x_spec :=
 loopOK_of (by kernel_rfl) f115_l2x_n (fun x o h=>⟨_,h⟩) (fun x=>by kernel_rfl) (fun n x=>by kernel_rfl)
theorem f53_run (x:tysDen (f53_spec).args):runF f53_env 53 Tryz.f53 f53_code (f53_spec).args (f53_spec).res x = f53_spec.fn x:=by kernel_rfl
theorem f53_enter:Enterable Tryz.prog 53:=enter_fun Tryz.func53 (by kernel_rfl)
theorem f53_envOK:EnvOK Tryz.prog f53_env:=envOK_of cds (by kernel_rfl) cfg_ok ⟨⟨f46_pure,f46_enter⟩,trivial⟩ trivial ⟨⟨Tryz.func53,by kernel_rfl⟩,⟨Tryz.func115,by kernel_rfl⟩,⟨Tryz.func116,by kernel_rfl⟩,trivial⟩ ⟨⟨Tryz.f115,f53_code_115,rfl,rfl,f115_l2x_ok⟩,trivial⟩ trivial trivial
theorem f53_pure:PureOK Tryz.prog cfg 53 f53_spec:=pure_of_run f53_envOK (fn:=Tryz.f53) (c:=f53_code) rfl rfl f53_spec (fun x _ h=>(f53_run x).trans h)
def f19 (a0:Gr) (a1:Int):Option (ByteArray × Int × Unit) :=
 (f53 a0 a1).bind fun y1 =>
 bif (!y1.2.1) then
 some ((⟨#[]⟩:ByteArray),(60:Int),())
 else
 (f54 a0 y1.1).bind fun y2 =>
 some (y2.1,(0:Int),())
def f19_spec:PSpec:={ args:=[tG,tI],res:=[.str,tI],fn:=fun x=>f19 x.1 x.2.1 }
noncomputable def f19_code:Code:=Tryz.f19.body.getD .skip
noncomputable def f19_env:Env0:={ C:=cfg,P:=[(53,f53_spec),(54,f54_spec)],L:=[],F:=[(19,Tryz.f19)] }
theorem f19_run (x:tysDen (f19_spec).args):runF f19_env 19 Tryz.f19 f19_code (f19_spec).args (f19_spec).res x = f19_spec.fn x:=by kernel_rfl
theorem f19_enter:Enterable Tryz.prog 19:=enter_fun Tryz.func19 (by kernel_rfl)
theorem f19_envOK:EnvOK Tryz.prog f19_env:=envOK_of cds (by kernel_rfl) cfg_ok ⟨⟨f53_pure,f53_enter⟩,⟨f54_pure,f54_enter⟩,trivial⟩ trivial ⟨⟨Tryz.func19,by kernel_rfl⟩,trivial⟩ trivial trivial trivial
theorem f19_pure:PureOK Tryz.prog cfg 19 f19_spec:=pure_of_run f19_envOK (fn:=Tryz.f19) (c:=f19_code) rfl rfl f19_spec (fun x _ h=>(f19_run x).trans h)
def f118_l5_head:Ann:={ env:=[(0,.ty .str),(1,TI),(7,.ty (.int .u64)),(19,TI)] }
def f118_l5_outs:List (Ex × Ann):=[((.exit 0),{ env:=[] }),(.ret,{ env:=[(4,TI),(5,TI),(6,TI)] })]
def f118_l5 (t0:ByteArray) (t1:Int):Nat→Int→Int→Option (outDen f118_l5_outs)
 | 0,_,_=>none
 | k + 1,t7,t19 =>
 bif (decide (t19 < (9:Int))) then
 let v1:Bool:=(decide ((IntKind.wrap .i64 (t1 + t19)) ≥ (t0.size:Int)))
 bif v1 then
 some (.inl ((),(),()))
 else
 bif (inR (IntKind.wrap .i64 (t1 + t19)) t0.size) then
 let v2:Int:=(byteAt t0 (IntKind.wrap .i64 (t1 + t19)))
 let v3:Int:=(IntKind.wrap .u64 (andV .u8 v2 (127:Int)))
 bif (decide (0≤(IntKind.wrap .i64 ((7:Int) * t19)))) then
 let v4:Int:=(shlV .u64 v3 (IntKind.wrap .i64 ((7:Int) * t19)))
 bif (decide (v2 ≥ (128:Int))) then
 f118_l5 t0 t1 k (orV .u64 t7 v4) (IntKind.wrap .i64 (t19 + 1))
 else
 let v5:Int:=(IntKind.wrap .i64 (shrV .u64 (orV .u64 t7 v4) (1:Int)))
 let v6:Int:=(IntKind.wrap .i64 (andV .u64 (orV .u64 t7 v4) (1:Int)))
 let v7:Int:=(xorV .i64 v5 (IntKind.wrap .i64 (0 - v6)))
 bif (decide (v2 = (0:Int))) then
 bif (decide (t19 > (0:Int))) then
 some (.inl ((),(),()))
 else
 let v8:Bool:=(decide (v7 < (-4611686018427387903:Int)))
 bif v8 then
 some (.inl ((),(),()))
 else
 let v9:Int:=(IntKind.wrap .i64 ((IntKind.wrap .i64 (t1 + t19)) + 1))
 some (.inr ((v7,v9,(0:Int),()),(),()))
 else
 let v10:Bool:=(decide (v7 < (-4611686018427387903:Int)))
 bif v10 then
 some (.inl ((),(),()))
 else
 let v11:Int:=(IntKind.wrap .i64 ((IntKind.wrap .i64 (t1 + t19)) + 1))
 some (.inr ((v7,v11,(0:Int),()),(),()))
 else none
 else none
 else
 some (.inl ((),(),()))
def f118_l5_n (n:Nat) (x:f118_l5_head.den):=f118_l5 x.1.1 x.1.2.1 n x.1.2.2.1 x.1.2.2.2.1
def f118_l5_spec:LSpec:={ head:=f118_l5_head,outs:=f118_l5_outs,fn:=fun x=>f118_l5_n (((9:Int) - x.1.2.2.2.1).toNat + 1) x }
def f118 (a0:ByteArray) (a1:Int):Option (Int × Int × Int × Unit) :=
 bif (decide (a1 < (0:Int))) then
 some ((0:Int),(0:Int),(2:Int),())
 else
 bif (decide (a1 > (a0.size:Int))) then
 some ((0:Int),(0:Int),(2:Int),())
 else
 (f118_l5 a0 a1 (((9:Int) - (0:Int)).toNat + 1) (0:Int) (0:Int)).bind fun o12 =>
 Sum.elim (fun o13 =>
 some ((0:Int),(0:Int),(10:Int),())) (fun o14 =>
 let u15:Int:=o14.1.1
 let u16:Int:=o14.1.2.1
 let u17:Int:=o14.1.2.2.1
 some (u15,u16,u17,())) o12
def f118_spec:PSpec:={ args:=[.str,tI],res:=[tI,tI,tI],fn:=fun x=>f118 x.1 x.2.1 }
noncomputable def f118_code:Code:=Tryz.f118.body.getD .skip
noncomputable def f118_env:Env0:={ C:=cfg,P:=[],L:=[(⟨12,0,118,5⟩,f118_l5_spec)],F:=[(118,Tryz.f118)] }
theorem f118_l5_ok:LoopOK f118_env 12 118 0 (loopAt f118_code 5) f118_l5_spec :=
 loopOK_of (by kernel_rfl) f118_l5_n (fun x o h=>⟨_,h⟩) (fun x=>by kernel_rfl) (fun n x=>by kernel_rfl)
theorem f118_run (x:tysDen (f118_spec).args):runF f118_env 118 Tryz.f118 f118_code (f118_spec).args (f118_spec).res x = f118_spec.fn x:=by kernel_rfl
theorem f118_enter:Enterable Tryz.prog 118:=enter_fun Tryz.func118 (by kernel_rfl)
theorem f118_envOK:EnvOK Tryz.prog f118_env:=envOK_of cds (by kernel_rfl) cfg_ok trivial trivial ⟨⟨Tryz.func118,by kernel_rfl⟩,trivial⟩ ⟨⟨Tryz.f118,f118_code,rfl,rfl,f118_l5_ok⟩,trivial⟩ trivial trivial
theorem f118_pure:PureOK Tryz.prog cfg 118 f118_spec:=pure_of_run f118_envOK (fn:=Tryz.f118) (c:=f118_code) rfl rfl f118_spec (fun x _ h=>(f118_run x).trans h)
def f64 (a0:Ed) (a1:Int):Option (Int × Unit) :=
 bif (decide (a1 = a0.2.1)) then
 some (a0.2.2.1,())
 else
 bif (decide (a1 = a0.2.2.1)) then
 some (a0.2.1,())
 else
 some ((-1:Int),())
def f64_spec:PSpec:={ args:=[tE,tI],res:=[tI],fn:=fun x=>f64 x.1 x.2.1 }
noncomputable def f64_code:Code:=Tryz.f64.body.getD .skip
noncomputable def f64_env:Env0:={ C:=cfg,P:=[],L:=[],F:=[(64,Tryz.f64)] }
theorem f64_run (x:tysDen (f64_spec).args):runF f64_env 64 Tryz.f64 f64_code (f64_spec).args (f64_spec).res x = f64_spec.fn x:=by kernel_rfl
theorem f64_enter:Enterable Tryz.prog 64:=enter_fun Tryz.func64 (by kernel_rfl)
theorem f64_envOK:EnvOK Tryz.prog f64_env:=envOK_of cds (by kernel_rfl) cfg_ok trivial trivial ⟨⟨Tryz.func64,by kernel_rfl⟩,trivial⟩ trivial trivial trivial
theorem f64_pure:PureOK Tryz.prog cfg 64 f64_spec:=pure_of_run f64_envOK (fn:=Tryz.f64) (c:=f64_code) rfl rfl f64_spec (fun x _ h=>(f64_run x).trans h)
def f65 (a0:Ed):Option (Bool × Unit) :=
 let v1:Int:=(if a0.2.2.1 < a0.2.1 then a0.2.2.1 else a0.2.1)
 some ((decide (v1 < (0:Int))),())
def f65_spec:PSpec:={ args:=[tE],res:=[.bool],fn:=fun x=>f65 x.1 }
noncomputable def f65_code:Code:=Tryz.f65.body.getD .skip
noncomputable def f65_env:Env0:={ C:=cfg,P:=[],L:=[],F:=[(65,Tryz.f65)] }
theorem f65_run (x:tysDen (f65_spec).args):runF f65_env 65 Tryz.f65 f65_code (f65_spec).args (f65_spec).res x = f65_spec.fn x:=by kernel_rfl
theorem f65_enter:Enterable Tryz.prog 65:=enter_fun Tryz.func65 (by kernel_rfl)
theorem f65_envOK:EnvOK Tryz.prog f65_env:=envOK_of cds (by kernel_rfl) cfg_ok trivial trivial ⟨⟨Tryz.func65,by kernel_rfl⟩,trivial⟩ trivial trivial trivial
theorem f65_pure:PureOK Tryz.prog cfg 65 f65_spec:=pure_of_run f65_envOK (fn:=Tryz.f65) (c:=f65_code) rfl rfl f65_spec (fun x _ h=>(f65_run x).trans h)
end Go.V.G
