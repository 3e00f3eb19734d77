/- Part of the proof. -/
import Derived.Test.YtijakakpbijdkaaGreatDoorA4
set_option linter.all false
set_option linter.unusedVariables false
set_option linter.unusedSectionVars false
set_option linter.unusedSimpArgs false
namespace Go.V
variable [Codes]
def Enterable (P : Program) (f : FuncId) : Prop := ∃ fn, P.funcs[f]? = some fn ∧ (fn.name == "runtime.NumGoroutine") = false ∧ fn.body.isNone = false
theorem run_callFunc {P:Program} {f:FuncId} (h:Enterable P f) (args:Array Value) (w:World):(callFunc f args).run P w = .ok (.enter f args) w:=by
 obtain ⟨fn,h1,h2,h3⟩:=h
 have h2' : ¬ fn.name = "runtime.NumGoroutine" := by simpa using h2
 have h3':¬ fn.body = none:=by intro he; rw [he] at h3; simp at h3
 simp [callFunc,h1,h2',h3']
def LoopOK (E:Env0) (d f base:Nat) (c:Code) (l:LSpec):Prop :=
 l.ok = true∧∃ step:Nat→l.head.den→Option (outDen l.outs),(∀ x o,l.fn x = some o→∃ n,step n x = some o)∧(∀ x,step 0 x = none) ∧
  ∀ n x o,step (n + 1) x = some o→runB E d f base c l (step n) x = some o
structure EnvOK (P:Program) (E:Env0):Prop where
 mixed:P.follows .mixedOrders = true
 cfg:CfgOK E.C P
 pure:∀ f p,find E.P f = some p→PureOK P E.C f p∧Enterable P f
 fresh:∀ f p,find E.R f = some p→FreshOK P E.C f p∧Enterable P f
 maps:∀ f p,find E.M f = some p→MapOK P E.C f p∧Enterable P f
 calls:∀ f c,find E.S f = some c→CallOK P E.C f c∧c.ok = true∧Enterable P f
 inpl:∀ f p,find E.I f = some p→InOK P E.C f p∧Enterable P f
 func:∀ f fn,find E.F f = some fn→P.funcs[f]? = some fn∧funOk (E.totOf f) fn = true
 codes:∀ f fn c,find E.F f = some fn→fn.body = some c→∀ id,Codes.cd f id = find (rangesOf fn.ntmps c) id
 loop:∀ d base f fn c b l,find E.F f = some fn→fn.body = some c→b∈loopsOf c→findL E.L ⟨d,base,f,firstRegion b⟩ = some l→LoopOK E d f base b l
section
variable {P:Program} {E:Env0} {R:Type}
def PV.val:PV→Value
 | .int k n=>.int k n
 | .emp=>.agg #[]
def Pan.entry (p:Pan):PanicEntry:={ v:=.iface p.t p.v.val,recovered:=false }
def CallsToP (P:Program) (f:FuncId) (vals:Array Value) (g:Gh) (tm:Array Value) (tms:List (Array Value)) (w:World) (K:AV→St→Option R) (KP:Pan→St→Option R) (r:R):Prop :=
 Calls P f vals w fun e w'=>(∃ v av s' g',e = .returned v∧K av s' = some r∧VR g' av v∧StR g' s' tm tms w'∧Tr g w g' w') ∨
  (∃ p s' g',e = .panicked [Pan.entry p]∧KP p s' = some r∧StR g' s' tm tms w'∧Tr g w g' w')
theorem CallsTo.p {f:FuncId} {vals:Array Value} {g:Gh} {tm:Array Value} {tms:List (Array Value)} {w:World} {K:AV→St→Option R} {KP:Pan→St→Option R} {r:R}
  (h:CallsTo P f vals g tm tms w K r):CallsToP P f vals g tm tms w K KP r:=Calls.mono h fun _ _ h=>.inl h
theorem panOf_ok {g:Gh} {v:AV} {c:Value} {p:Pan} (h:panOf v = some p) (hv:VR g v c):c = .iface p.t p.v.val:=by
 unfold panOf at h
 split at h
 ·simp only [Option.some.injEq] at h
  subst h
  obtain ⟨x,e1,e2⟩:=hv
  simp only [List.cons.injEq,and_true] at e1
  rw [e1,e2]
  rfl
 ·simp only [Option.some.injEq] at h
  subst h
  obtain ⟨x,e1,e2⟩:=hv
  simp only [List.cons.injEq,and_true] at e1
  rw [e1,e2]
  rfl
 ·cases h
def frameOf (d:Deferred):Option (Array Value) :=
 match d.target with
 | .fn fv cap=>some #[.tuple (#[.func fv #[] cap]++d.args)]
 | _=>none
def dfs:List Deferred→List (Array Value)
 | []=>[]
 | d :: l=>match frameOf d with
  | some a=>a :: dfs l
  | none=>dfs l
def DsTo (o:Oper) (ds ds':List Deferred):Prop:=ds' = ds ∨ (noDefer o = false∧∃ f cap args,ds' = { target:=.fn (.func f) cap,args:=args } :: ds)
structure InlOK (P:Program) (E:Env0) (inl:Nat→Callee→List AV→St→(AV→St→Option R)→(Pan→St→Option R)→Option R):Prop where
 fn:∀ base f args s K KP r,inl base (.fn f) args s K KP = some r→Enterable P f∧∀ g tm tms w (vals:Array Value),StR g s tm tms w→GlobOK E.C g.fz→VsR g args vals.toList→CallsToP P f vals g tm tms w K KP r
 yld:∀ base b args s K KP r,inl base (.yld b) args s K KP = some r→∀ g tm tms w (vals:Array Value) gb l,StR g s tm tms w→GlobOK E.C g.fz→VsR g args vals.toList→g.bx b = some gb→gb.blk = some l →
  ∃ f tmps assign body,(Instr.yield l vals).run P w = .ok (.round l f tmps assign body) w∧∀ (F:Fence) (n:Nat),Wide F →
   RoundIn F n P l f tmps assign body w fun e w'=>∃ v av s' g',e = .returned v∧K av s' = some r∧VR g' av v∧StR g' s' tm tms w'∧Tr g w g' w'
theorem VsR.append {g:Gh}:∀ {l m:List AV} {a b:List Value},VsR g l a→VsR g m b→VsR g (l++m) (a++b)
 | [],_,[],_,_,h=>h
 | _ :: _,_,_ :: _,_,⟨h1,h2⟩,h=>⟨h1,h2.append h⟩
 | [],_,_ :: _,_,h,_=>h.elim
 | _ :: _,_,[],_,h,_=>h.elim
theorem CapsR.vsR {g:Gh}:∀ {l:List AV} {vs:List Value},CapsR g l vs→VsR g l vs
 | [],[],_=>trivial
 | a :: l,v :: vs,⟨h1,h2⟩=>by
  refine ⟨?_,h2.vsR⟩
  unfold CapR at h1
  split at h1
  ·obtain ⟨gb,blk,e1,e2,e3,rfl⟩:=h1
   exact ⟨gb,blk,e1,e2,e3,(fun _ h=>nomatch h),rfl⟩
  ·obtain ⟨gb,blk,e1,e2,e3,rfl⟩:=h1
   exact ⟨gb,blk,e1,e2,e3,rfl⟩
  ·exact ⟨#[],h1,rfl⟩
  ·exact h1.elim
 | [],_ :: _,h=>h.elim
 | _ :: _,[],h=>h.elim
theorem missSl_ok {C:Cfg} (hC:CfgOK C P) {g:Gh} {s:St} {tm:Array Value} {tms:List (Array Value)} {w:World} (hs:StR g s tm tms w) (hG:GlobOK C g.fz) {t:Nat} {m k:Operand} {u:Unit} (h:missSl C s t m k = some u) (ok:Bool) (d:List Deferred) :
  ∃ a x,Act.eval ⟨tm,d⟩ m = a∧Act.eval ⟨tm,d⟩ k = x∧(Instr.lookup t (Act.eval ⟨tm,d⟩ m) (Act.eval ⟨tm,d⟩ k) ok).run P w = .ok (if ok = true then .tuple #[.slice none 0 0,.bool false] else .slice none 0 0) w:=by
 refine ⟨_,_,rfl,rfl,?_⟩
 unfold missSl at h
 split at h
 ·rename_i kt e b kv hu hm hk
  split at h
  ·rename_i K V l hz hb
   split at h
   ·rename_i hc
    split at h
    ·rename_i kx hkx
     cases hh:mapHas K V l kx with
     | true=>rw [hh] at h; cases h
     | false =>
      have hmt:=hC.map t _ _ hu
      obtain ⟨gb,r,es,ck,e0,e1,e3,e2,q2,q4,q5,q6⟩:=mp_box hs hb (ev_ok hs hG hm d)
      have hxk:=norm_tv hs.bxs.w hs.fz hkx (ev_ok hs hG hk d)
      obtain ⟨i,z,hi,_,_,hiz,hg⟩:=hC.zero e _ hz
      have hz0:z = .slice none 0 0:=by
       have h1:=hg g
       have hna:=hC.zone e i z hc.2.2.2.1 hc.2.2.2.2 hi hiz
       have hzc:z.cells = #[z]:=by cases z <;> first | rfl | exact absurd rfl (hna _)
       rw [hzc] at h1
       obtain ⟨c1,c2,h2,h3,h4⟩:=h1
       have h4':c2 = []:=h4
       have h3':c1 = [.slice none 0 0]:=h3
       rw [h3',h4'] at h2
       simpa using h2
      subst hz0
      obtain ⟨c1,c2,c3⟩:=key_ok hC (w:=w) hc.1 hc.2.1 hc.2.2.1 hxk q5
      rcases c3 with ⟨f1,f2,f3⟩ | ⟨f1,_⟩
      ·rw [e0]
       cases ok <;> simp [Instr.lookup,run_underlying hmt,MapKept.run_getObj_map q4,c1,f2,zeroValue,typeInfo,hi,hiz,Result.andThen]
      ·rw [hh] at f1; cases f1
    ·cases h
   ·cases h
  ·cases h
 ·cases h
theorem known_some {g:Gh} {s:St} {tm:Array Value} {tms:List (Array Value)} {w:World} (hs:StR g s tm tms w) {a:AV} (hk:slKnown s.bxs a = true) {c:Value} (hv:VR g a c):∃ ad n k,c = .slice (some ad) n k:=by
 unfold slKnown at hk
 split at hk
 ·rename_i T x l
  have hv':GR g (.full T (x :: l)) [c]:=hv
  rcases hv' with ⟨h,_⟩ | ⟨blk,off,cs',e,_⟩
  ·cases h
  ·simp only [List.cons.injEq,and_true] at e
   exact ⟨_,_,_,e⟩
 ·rename_i T x l
  obtain ⟨v,e,h1⟩:=(show GR g (.val (.sl T) (x :: l)) [c] from hv)
  simp only [List.cons.injEq,and_true] at e
  subst e
  rcases h1 with ⟨h,_⟩ | ⟨blk,off,cap,cs,e,_⟩
  ·cases h
  ·exact ⟨_,_,_,e⟩
 ·obtain ⟨gb,blk,cap,_,_,_,_,_,ad,e,_⟩:=(show GR g (.vsl _ _ _ _ _) [c] from hv)
  simp only [List.cons.injEq,and_true] at e
  exact ⟨_,_,_,e⟩
 ·rename_i b w'
  obtain ⟨gb,v,e1,e2,e3,hw⟩:=(show GR g (.row b w') [c] from hv)
  simp only [List.cons.injEq,and_true] at e3
  subst e3
  split at hk
  ·rename_i T fz l hb
   obtain ⟨gb',k1,k2,k3,k4,k5,k6⟩:=hs.bxs.box b _ hb
   rw [e1] at k1
   cases k1
   unfold WinR at hw
   cases hbl:gb.blk with
   | some blk =>
    cases w' with
    | whole=>simp only [hbl] at hw; exact ⟨_,_,_,hw⟩
    | part off n full =>
     simp only [hbl] at hw
     obtain ⟨_,a,c,e,_⟩:=hw
     exact ⟨_,_,_,e⟩
   | none =>
    have hl:l = []:=by
     simp only [hbl] at k6
     exact k6.1
    subst hl
    cases w' <;> simp [Win.app] at hk
  ·cases hk
 ·cases hk
theorem nilSl_ok {C:Cfg} (hC:CfgOK C P) {g:Gh} {s:St} {tm:Array Value} {tms:List (Array Value)} {w:World} (hs:StR g s tm tms w) {a:AV} (hk:slKnown s.bxs a = true) {op:BinOp} {t:Nat} {v:AV} (h:nilSl C op t = some v) {c:Value} (hv:VR g a c) (ox oy:Operand) :
  ∃ z,(do eqGuard op t ox oy c (.slice none 0 0); binOp op t c (.slice none 0 0):Sem Value).run P w = .ok z w∧VR g v z:=by
 obtain ⟨ad,n,k,rfl⟩:=known_some hs hk hv
 unfold nilSl at h
 split at h
 ·rename_i e hu
  have hq:=run_equal_nn (P:=P) (w:=w) (hC.sl _ _ hu) ad n k
  have hg:(eqGuard op t ox oy (.slice (some ad) n k) (.slice none 0 0)).run P w = .ok () w:=run_eqGuard (by simp) (by simp)
  split at h
  ·cases h
   obtain ⟨z,h3,h4⟩:=run_binOp_eq (g:=g) (v:=.val .bool false) (op:=.eql) hq (.inl ⟨rfl,rfl⟩) rfl rfl
   exact ⟨z,by rw [Sem.run_bind,hg]; exact h3,h4⟩
  ·cases h
   obtain ⟨z,h3,h4⟩:=run_binOp_eq (g:=g) (v:=.val .bool true) (op:=.neq) hq (.inr ⟨rfl,rfl⟩) rfl rfl
   exact ⟨z,by rw [Sem.run_bind,hg]; exact h3,h4⟩
  ·cases h
 ·cases h
theorem exec1_ok (hE : EnvOK P E) {F : Fence} (hW : Wide F) {n : Nat} {inl : Nat → Callee → List AV → St → (AV → St → Option R) → (Pan → St → Option R) → Option R} (hI : InlOK P E inl) {g : Gh} {s : St} {tm : Array Value} {tms : List (Array Value)} {w : World} {ds : List Deferred} (hs : StR g s tm (dfs ds ++ tms) w) (hG : GlobOK E.C g.fz)
    {base : Nat} {o : Oper} {K : AV → St → Option R} {KP : Pan → St → Option R} {r : R} (h : exec1 E inl base o s K KP = some r) (hro : F.round = none ∨ noDefer o = true) {next : Act → World → Prop} {Q : Exit → Act → World → Prop}
    (hn : ∀ v s' g' z w' ds', K v s' = some r → VR g' v z → DsTo o ds ds' → StR g' s' tm (dfs ds' ++ tms) w' → Tr g w g' w' → next (Act.put ⟨tm, ds'⟩ o.dst z) w')
    (hp : ∀ p s' g' w', KP p s' = some r → StR g' s' tm (dfs ds ++ tms) w' → Tr g w g' w' → Q (.panic [Pan.entry p]) ⟨tm, ds⟩ w') : o.wpIn F n P ⟨tm, ds⟩ w next Q := by
  unfold exec1 at h
  split at h
  · -- panic
    rename_i x hop
    refine wpIn_run hW (fun c hc => by rw [hop] at hc; cases hc) ?_
    split at h
    · rename_i v hv
      split at h
      · rename_i p hpv
        have hc := panOf_ok hpv (ev_ok hs hG hv ds)
        have hr : (execOp (Act.eval ⟨tm, ds⟩) o).run P w = .halt (.panic (.iface p.t p.v.val)) w := by
          simp only [execOp, hop, hc, Instr.panic, goPanic]
          rfl
        rw [hr, Oper.uponIn_panic]
        exact hp p s g w h hs (Tr.refl _ _)
      · cases h
    · cases h
  · -- a deferred call
    rename_i f args ats hop
    have hrn : F.round = none := hro.resolve_right (by unfold noDefer; rw [hop]; simp)
    split at h
    · rename_i f' caps vs hf hvs
      obtain ⟨cv, hcv, hcaps⟩ := ev_ok hs hG hf ds
      simp only [List.cons.injEq, and_true] at hcv
      have hv := evL_ok hs hG ds hvs
      have hr : (execOp (Act.eval ⟨tm, ds⟩) o).run P w = .ok (.defer { target := .fn (.func f') cv, args := args.map (Act.eval ⟨tm, ds⟩) }) w := by
        simp only [execOp, hop, resolve, hcv, Deferred.ofValue, Sem.run_bind, Sem.run_pure, Result.andThen_ok, Array.empty_append]
      refine ⟨fun f _ => hW.fn f, ?_⟩
      rw [hrn, Oper.semAt_none, hr, Oper.uponIn_defer]
      have hds : dfs ({ target := .fn (.func f') cv, args := args.map (Act.eval ⟨tm, ds⟩) } :: ds) = #[.tuple (#[.func (.func f') #[] cv] ++ args.map (Act.eval ⟨tm, ds⟩))] :: dfs ds := rfl
      cases hok : vs.all AV.okGs with
      | false => rw [hok] at h; cases h
      | true =>
        rw [hok, cond_true] at h
        refine hn _ _ g undef w _ h ⟨#[], rfl, trivial⟩ (.inr ⟨by unfold noDefer; rw [hop], f', cv, _, rfl⟩) ?_ (Tr.refl _ _)
        rw [hds]
        refine ⟨hs.env, ⟨fun m v e => ?_, hs.stk⟩, hs.bxs, hs.fz⟩
        by_cases hm : 0 = m
        · subst hm
          rw [find_cons_same] at e
          cases e
          refine ⟨_, rfl, ?_⟩
          simp only [Array.toList_append, List.cons_append, List.nil_append]
          refine ⟨⟨cv, rfl, hcaps⟩, ?_⟩
          rw [Array.toList_map]
          exact vsR_tsR hv hok
        · rw [find_cons_other _ _ hm] at e; cases e
    · cases h
  · -- pick
    rename_i c a b hop
    refine wpIn_run hW (fun c hc => by rw [hop] at hc; cases hc) ?_
    split at h
    · rename_i t hc
      have hcv : [Act.eval ⟨tm, ds⟩ c] = [Value.bool t] := ev_ok hs hG hc ds
      simp only [List.cons.injEq, and_true] at hcv
      have hr : (execOp (Act.eval ⟨tm, ds⟩) o).run P w = .ok (.value (if t = true then Act.eval ⟨tm, ds⟩ a else Act.eval ⟨tm, ds⟩ b)) w := by
        simp only [execOp, hop, hcv]
        cases t <;> simp [asBool]
      rw [hr, Oper.uponIn_value]
      cases t
      · simp only [cond_false] at h
        split at h
        · rename_i v hv
          exact hn v s g _ w ds h (ev_ok hs hG hv ds) (.inl rfl) hs (Tr.refl _ _)
        · cases h
      · simp only [cond_true] at h
        split at h
        · rename_i v hv
          exact hn v s g _ w ds h (ev_ok hs hG hv ds) (.inl rfl) hs (Tr.refl _ _)
        · cases h
    · cases h
  · -- a call
    rename_i f args ats hop
    refine wpIn_run hW (fun c hc => by rw [hop] at hc; cases hc) ?_
    split at h
    · rename_i f' caps vs hf hvs
      obtain ⟨cv, hcv, hcaps⟩ := ev_ok hs hG hf ds
      simp only [List.cons.injEq, and_true] at hcv
      have hv := evL_ok hs hG ds hvs
      have hr : ∀ (_ : Enterable P f'), (execOp (Act.eval ⟨tm, ds⟩) o).run P w = .ok (.enter f' (args.map (Act.eval ⟨tm, ds⟩) ++ cv)) w := by
        intro he
        simp only [execOp, hop, resolve, hcv, Deferred.ofValue, Sem.run_bind, Sem.run_pure, Result.andThen_ok, invoke, Array.empty_append]
        exact run_callFunc he _ _
      have fin : Enterable P f' → CallsToP P f' (args.map (Act.eval ⟨tm, ds⟩) ++ cv) g tm (dfs ds ++ tms) w K KP r → o.uponIn F n P ⟨tm, ds⟩ next Q ((execOp (Act.eval ⟨tm, ds⟩) o).run P w) := by
        intro he hc
        rw [hr he, Oper.uponIn_enter]
        refine ⟨hW.deep n, hW.calls.2 (Calls.mono hc ?_)⟩
        rintro e w' (⟨v, av, s', g', rfl, h1, h2, h3, h4⟩ | ⟨p, s', g', rfl, h1, h3, h4⟩)
        · exact hn av s' g' v w' ds h1 h2 (.inl rfl) h3 h4
        · exact hp p s' g' w' h1 h3 h4
      have hall : VsR g (vs ++ caps) (args.map (Act.eval ⟨tm, ds⟩) ++ cv).toList := by
        rw [Array.toList_append, Array.toList_map]
        exact hv.append hcaps.vsR
      split at h
      · rename_i p hp
        have hcv0 : cv = #[] := by
          obtain ⟨l⟩ := cv
          cases l with
          | nil => rfl
          | cons a l => exact hcaps.elim
        obtain ⟨h1, h2⟩ := hE.pure f' p hp
        refine fin h2 ?_
        rw [hcv0, Array.append_empty]
        exact (callP_ok h1 hs hG h (by rw [Array.toList_map]; exact hv)).p
      · split at h
        · rename_i p hp _
          have hcv0 : cv = #[] := by
            obtain ⟨l⟩ := cv
            cases l with
            | nil => rfl
            | cons a l => exact hcaps.elim
          obtain ⟨h1, h2⟩ := hE.fresh f' p hp
          refine fin h2 ?_
          rw [hcv0, Array.append_empty]
          exact (callR_ok h1 hs hG h (by rw [Array.toList_map]; exact hv)).p
        · split at h
          · rename_i p hp _ _
            have hcv0 : cv = #[] := by
              obtain ⟨l⟩ := cv
              cases l with
              | nil => rfl
              | cons a l => exact hcaps.elim
            obtain ⟨h1, h2⟩ := hE.maps f' p hp
            refine fin h2 ?_
            rw [hcv0, Array.append_empty]
            exact (callM_ok h1 hs hG h (by rw [Array.toList_map]; exact hv)).p
          · split at h
            · rename_i c hc
              obtain ⟨h1, h2, h3⟩ := hE.calls f' c hc
              exact fin h3 (callS_ok h1 h2 hs hG h hall).p
            · split at h
              · rename_i p hp
                obtain ⟨h1, h2⟩ := hE.inpl f' p hp
                exact fin h2 (callI_ok h1 hs hG h hall).p
              · obtain ⟨h1, h2⟩ := hI.fn _ _ _ _ _ _ _ h
                exact fin h1 (h2 g tm (dfs ds ++ tms) w _ hs hG hall)
    · -- a loop over a function hands a value down
      rename_i b vs hf hvs
      obtain ⟨gb, l, e1, e2, e3, e4⟩ := ev_ok hs hG hf ds
      simp only [List.cons.injEq, and_true] at e4
      have hv := evL_ok hs hG ds hvs
      obtain ⟨f2, tmps, assign, body, hy, hround⟩ := hI.yld _ _ _ _ _ _ _ h g tm (dfs ds ++ tms) w (args.map (Act.eval ⟨tm, ds⟩)) gb l hs hG (by rw [Array.toList_map]; exact hv) e1 e3
      have hr : (execOp (Act.eval ⟨tm, ds⟩) o).run P w = .ok (.round l f2 tmps assign body) w := by
        simp only [execOp, hop, resolve, e4, Deferred.ofValue, Sem.run_bind, Sem.run_pure, Result.andThen_ok, invoke, Array.empty_append, Array.append_empty]
        exact hy
      rw [hr, Oper.uponIn_round]
      refine ⟨hW.deep n, (hround F (n - 1) hW).mono ?_⟩
      rintro e w' ⟨v, av, s', g', rfl, h1, h2, h3, h4⟩
      exact hn av s' g' v w' ds h1 h2 (.inl rfl) h3 h4
    · -- a method with its receiver
      rename_i f' caps vs hf hvs
      obtain ⟨cv, hcv, hcaps⟩ := ev_ok hs hG hf ds
      simp only [List.cons.injEq, and_true] at hcv
      have hv := evL_ok hs hG ds hvs
      have hall : VsR g (caps ++ vs) (cv ++ args.map (Act.eval ⟨tm, ds⟩)).toList := by
        rw [Array.toList_append, Array.toList_map]
        exact hcaps.vsR.append hv
      obtain ⟨h1, h2⟩ := hI.fn _ _ _ _ _ _ _ h
      have hr : (execOp (Act.eval ⟨tm, ds⟩) o).run P w = .ok (.enter f' (cv ++ args.map (Act.eval ⟨tm, ds⟩))) w := by
        simp only [execOp, hop, resolve, hcv, Deferred.ofValue, Sem.run_bind, Sem.run_pure, Result.andThen_ok, invoke, Array.append_empty]
        exact run_callFunc h1 _ _
      rw [hr, Oper.uponIn_enter]
      refine ⟨hW.deep n, hW.calls.2 (Calls.mono (h2 g tm (dfs ds ++ tms) w _ hs hG hall) ?_)⟩
      rintro e w' (⟨v, av, s', g', rfl, h1, h2, h3, h4⟩ | ⟨p, s', g', rfl, h1, h3, h4⟩)
      · exact hn av s' g' v w' ds h1 h2 (.inl rfl) h3 h4
      · exact hp p s' g' w' h1 h3 h4
    · cases h
  · -- a range begins
    rename_i t x hop
    refine wpIn_run hW (fun c hc => by rw [hop] at hc; cases hc) ?_
    split at h
    · rename_i kt et b hu hb hk
      split at h
      · rename_i T V l hm
        obtain ⟨z, w', g', h1, h2, h3, h4⟩ := mrange_ok hE.cfg hs hu hm hk (ev_ok hs hG hb ds)
        have hr : (execOp (Act.eval ⟨tm, ds⟩) o).run P w = .ok (.value z) w' := by
          simp only [execOp, hop]
          rw [Sem.run_bind, h1]
          rfl
        rw [hr, Oper.uponIn_value]
        exact hn _ _ g' z w' ds h h2 (.inl rfl) h3 h4
      · cases h
    · cases h
  · -- elements of a literal
    rename_i t n' parts hop
    split at h
    · rename_i c v e hx
      refine wpIn_run hW (execA_noDefer hx) ?_
      cases c with
      | false => simp at h
      | true =>
        simp only [cond_true] at h
        obtain ⟨n, w', g', h1, h2, h3, h4⟩ := execA_ok hE.cfg hs hG hx ds
        rw [h1]
        rcases h2 with ⟨z, rfl, h2⟩ | ⟨rfl, h2⟩
        · rw [Oper.uponIn_value]
          exact hn v _ g' z w' ds h h2 (.inl rfl) h3 h4
        · rw [Oper.uponIn_skip]
          exact hn v _ g' undef w' ds h h2 (.inl rfl) h3 h4
    · split at h
      · rename_i vs hvs
        obtain ⟨fz1, hs1, t1⟩ := StR.frzL (vs.map (·.2)) hs
        split at h
        · rename_i c v e hx
          refine wpIn_run hW (execA_noDefer hx) ?_
          cases c with
          | false => simp at h
          | true =>
            simp only [cond_true] at h
            obtain ⟨n, w', g', h1, h2, h3, h4⟩ := execA_ok hE.cfg hs1 (hG.mono t1.fz) hx ds
            rw [h1]
            rcases h2 with ⟨z, rfl, h2⟩ | ⟨rfl, h2⟩
            · rw [Oper.uponIn_value]
              exact hn v _ g' z w' ds h h2 (.inl rfl) h3 (t1.trans h4)
            · rw [Oper.uponIn_skip]
              exact hn v _ g' undef w' ds h h2 (.inl rfl) h3 (t1.trans h4)
        · cases h
      · cases h
  · -- an entry of a map
    rename_i t m k x hop
    split at h
    · rename_i c v e hx
      refine wpIn_run hW (execA_noDefer hx) ?_
      cases c with
      | false => simp at h
      | true =>
        simp only [cond_true] at h
        obtain ⟨n, w', g', h1, h2, h3, h4⟩ := execA_ok hE.cfg hs hG hx ds
        rw [h1]
        rcases h2 with ⟨z, rfl, h2⟩ | ⟨rfl, h2⟩
        · rw [Oper.uponIn_value]
          exact hn v _ g' z w' ds h h2 (.inl rfl) h3 h4
        · rw [Oper.uponIn_skip]
          exact hn v _ g' undef w' ds h h2 (.inl rfl) h3 h4
    · split at h
      · rename_i y hy
        obtain ⟨fz1, hs1, t1⟩ := StR.frzL [y] hs
        split at h
        · rename_i c v e hx
          refine wpIn_run hW (execA_noDefer hx) ?_
          cases c with
          | false => simp at h
          | true =>
            simp only [cond_true] at h
            obtain ⟨n, w', g', h1, h2, h3, h4⟩ := execA_ok hE.cfg hs1 (hG.mono t1.fz) hx ds
            rw [h1]
            rcases h2 with ⟨z, rfl, h2⟩ | ⟨rfl, h2⟩
            · rw [Oper.uponIn_value]
              exact hn v _ g' z w' ds h h2 (.inl rfl) h3 (t1.trans h4)
            · rw [Oper.uponIn_skip]
              exact hn v _ g' undef w' ds h h2 (.inl rfl) h3 (t1.trans h4)
        · cases h
      · cases h
  · -- a look into a map
    rename_i t m k ok hop
    split at h
    · rename_i u hu
      refine wpIn_run hW (fun c hc => by rw [hop] at hc; cases hc) ?_
      obtain ⟨a, x, h1, h2, h3⟩ := missSl_ok hE.cfg hs hG hu ok ds
      have hr : (execOp (Act.eval ⟨tm, ds⟩) o).run P w = .ok (.value (if ok = true then .tuple #[.slice none 0 0, .bool false] else .slice none 0 0)) w := by
        simp only [execOp, hop]
        rw [Sem.run_bind, h3]
        rfl
      rw [hr, Oper.uponIn_value]
      refine hn _ _ g _ w ds h ?_ (.inl rfl) hs (Tr.refl _ _)
      cases ok
      · exact rfl
      · exact ⟨_, rfl, rfl, rfl, trivial⟩
    · split at h
      · rename_i c v e hx
        refine wpIn_run hW (execA_noDefer hx) ?_
        cases c with
        | false => simp at h
        | true =>
          simp only [cond_true] at h
          obtain ⟨n, w', g', h1, h2, h3, h4⟩ := execA_ok hE.cfg hs hG hx ds
          rw [h1]
          rcases h2 with ⟨z, rfl, h2⟩ | ⟨rfl, h2⟩
          · rw [Oper.uponIn_value]
            exact hn v _ g' z w' ds h h2 (.inl rfl) h3 h4
          · rw [Oper.uponIn_skip]
            exact hn v _ g' undef w' ds h h2 (.inl rfl) h3 h4
      · cases h
  · -- a slice held against nil
    rename_i op t x yt hop
    refine wpIn_run hW (fun c hc => by rw [hop] at hc; cases hc) ?_
    split at h
    · rename_i a ha
      cases hk : slKnown s.bxs a with
      | true =>
        rw [hk, cond_true] at h
        split at h
        · rename_i v hv
          obtain ⟨z, h1, h2⟩ := nilSl_ok hE.cfg hs hk hv (ev_ok hs hG ha ds) x (.const (.slice none 0 0))
          have hr : (execOp (Act.eval ⟨tm, ds⟩) o).run P w = .ok (.value z) w := by
            simp only [execOp, hop]
            have h1' : (do eqGuard op t x (.const (.slice none 0 0)) (Act.eval ⟨tm, ds⟩ x) (Act.eval ⟨tm, ds⟩ (.const (.slice none 0 0))); binOp op t (Act.eval ⟨tm, ds⟩ x) (Act.eval ⟨tm, ds⟩ (.const (.slice none 0 0))) : Sem Value).run P w = .ok z w := h1
            rw [Sem.run_bind, h1']
            rfl
          rw [hr, Oper.uponIn_value]
          exact hn v s g z w ds h h2 (.inl rfl) hs (Tr.refl _ _)
        · cases h
      | false =>
        rw [hk, cond_false] at h
        split at h
        · rename_i c v e hx
          cases c with
          | false => simp at h
          | true =>
            simp only [cond_true] at h
            obtain ⟨n, w', g', h1, h2, h3, h4⟩ := execA_ok hE.cfg hs hG hx ds
            rw [h1]
            rcases h2 with ⟨z, rfl, h2⟩ | ⟨rfl, h2⟩
            · rw [Oper.uponIn_value]
              exact hn v _ g' z w' ds h h2 (.inl rfl) h3 h4
            · rw [Oper.uponIn_skip]
              exact hn v _ g' undef w' ds h h2 (.inl rfl) h3 h4
        · cases h
    · cases h
  · -- an entry of a literal
    rename_i t m k x hop
    refine wpIn_run hW (fun c hc => by rw [hop] at hc; cases hc) ?_
    split at h
    · rename_i c v e hx
      cases c with
      | false => simp at h
      | true =>
        simp only [cond_true] at h
        obtain ⟨n, w', g', h1, h2, h3, h4⟩ := execA_ok hE.cfg hs hG hx ds
        have h1' : (execOp (Act.eval ⟨tm, ds⟩) o).run P w = .ok n w' := by
          rw [← h1]
          simp only [execOp, hop]
        rw [h1']
        rcases h2 with ⟨z, rfl, h2⟩ | ⟨rfl, h2⟩
        · rw [Oper.uponIn_value]
          exact hn v _ g' z w' ds h h2 (.inl rfl) h3 h4
        · rw [Oper.uponIn_skip]
          exact hn v _ g' undef w' ds h h2 (.inl rfl) h3 h4
    · cases h
  · -- a range goes on
    rename_i x hop
    refine wpIn_run hW (fun c hc => by rw [hop] at hc; cases hc) ?_
    split at h
    · rename_i b hb
      split at h
      · rename_i T V l hi
        rcases next_ok (P := P) hs hi (ev_ok hs hG hb ds) o.type with ⟨rfl, h1⟩ | ⟨hl, p, hp1, z, w', h1, h2, h3, h4⟩
        · have hr : (execOp (Act.eval ⟨tm, ds⟩) o).run P w = .ok (.value (.tuple #[.bool false])) w := by
            simp only [execOp, hop]
            rw [Sem.run_bind, h1]
            rfl
          rw [hr, Oper.uponIn_value]
          exact hn _ _ g _ w ds h ⟨_, rfl, rfl, trivial⟩ (.inl rfl) hs (Tr.refl _ _)
        · have hr : (execOp (Act.eval ⟨tm, ds⟩) o).run P w = .ok (.value z) w' := by
            simp only [execOp, hop]
            rw [Sem.run_bind, h1]
            rfl
          have hne : l.isEmpty = false := by cases l with
            | nil => exact (hl rfl).elim
            | cons _ _ => rfl
          rw [hne, cond_false] at h
          rw [hr, Oper.uponIn_value]
          exact hn _ _ g z w' ds (anyOf_some h p hp1) h2 (.inl rfl) h3 h4
      · cases h
    · cases h
  · -- any other
    split at h
    · rename_i c v e hx
      refine wpIn_run hW (execA_noDefer hx) ?_
      cases c with
      | false => simp at h
      | true =>
        simp only [cond_true] at h
        obtain ⟨n, w', g', h1, h2, h3, h4⟩ := execA_ok hE.cfg hs hG hx ds
        rw [h1]
        rcases h2 with ⟨z, rfl, h2⟩ | ⟨rfl, h2⟩
        · rw [Oper.uponIn_value]
          exact hn v _ g' z w' ds h h2 (.inl rfl) h3 h4
        · rw [Oper.uponIn_skip]
          exact hn v _ g' undef w' ds h h2 (.inl rfl) h3 h4
    · cases h
theorem slot_bool {g:Gh} {tm:Array Value} {d:Nat} {b:Bool} (h:VR g (.val .bool b) (tm.getD d undef)):tm[d]? = some (.bool b):=by
 have h':[tm.getD d undef] = [Value.bool b]:=h
 simp only [List.cons.injEq,and_true] at h'
 rw [Array.getD_eq_getD_getElem?] at h'
 cases ht:tm[d]? with
 | none=>rw [ht] at h'; cases h'
 | some v=>rw [ht] at h'; simp only [Option.getD_some] at h'; rw [h']
theorem slot_skip {g:Gh} {tm:Array Value} {d:Nat} (h:VR g (.tup []) (tm.getD d undef)):tm[d]? = none ∨ tm[d]? = some (.tuple #[]):=by
 obtain ⟨arr,h1,h2⟩:=h
 obtain ⟨l⟩:=arr
 cases l with
 | cons a l=>exact h2.elim
 | nil =>
  rw [Array.getD_eq_getD_getElem?] at h1
  cases ht:tm[d]? with
  | none=>exact .inl rfl
  | some v=>rw [ht] at h1; simp only [Option.getD_some] at h1; rw [h1]; exact .inr rfl
theorem skipR (g:Gh):VR g (.tup []) undef:=⟨#[],rfl,trivial⟩
theorem dstOk_lt {n:Nat} {o:Oper} (h:dstOk n o = true):∀ d,o.dst = some d→d < n:=by
 intro d hd
 unfold dstOk at h
 rw [hd] at h
 exact Nat.le_of_ble_eq_true h
inductive DsGo:List Deferred→List Deferred→Prop
 | refl (ds:List Deferred):DsGo ds ds
 | cons {ds ds':List Deferred} (f:FuncId) (cap args:Array Value) (h:DsGo ({ target:=.fn (.func f) cap,args:=args } :: ds) ds'):DsGo ds ds'
theorem DsTo.go {o:Oper} {ds ds1 ds2:List Deferred} (h:DsTo o ds ds1) (k:DsGo ds1 ds2):DsGo ds ds2:=by
 rcases h with rfl | ⟨_,f,cap,args,rfl⟩
 ·exact k
 ·exact .cons f cap args k
theorem DsTo.same {o:Oper} {ds ds':List Deferred} (h:DsTo o ds ds') (hn:noDefer o = true):ds' = ds:=by
 rcases h with h | ⟨h,_⟩
 ·exact h
 ·rw [hn] at h; cases h
theorem runOps_ok (hE:EnvOK P E) {F:Fence} (hW:Wide F) {N:Nat} {inl:Nat→Callee→List AV→St→(AV→St→Option R)→(Pan→St→Option R)→Option R} (hI:InlOK P E inl) {base:Nat} {ops:Array Oper} {n:Nat} {tms:List (Array Value)} {Q:Exit→Act→World→Prop} {K:Ex→St→Option R} {r:R} :
  ∀ (rest:List Oper) (k:Nat),ops.toList.drop k = rest→rest.all (dstOk n) = true→(F.round = none ∨ rest.all noDefer = true)→∀ {g:Gh} {s:St} {tm:Array Value} {w:World} {ds:List Deferred},runOps E inl base ops rest s K = some r→StR g s tm (dfs ds++tms) w→GlobOK E.C g.fz→tm.size = n →
   (∀ s' tm' g' w' ds',K .normal s' = some r→StR g' s' tm' (dfs ds'++tms) w'→Tr g w g' w'→tm'.size = n→DsGo ds ds'→Q .normal ⟨tm',ds'⟩ w') →
   (∀ p s' tm' g' w' ds',K (.pan p) s' = some r→StR g' s' tm' (dfs ds'++tms) w'→Tr g w g' w'→tm'.size = n→DsGo ds ds'→Q (.panic [Pan.entry p]) ⟨tm',ds'⟩ w')→wpOpsIn F N P ops Q (List.range' k rest.length) ⟨tm,ds⟩ w
 | [],k,_,_,_,g,s,tm,w,ds,h,hs,_,hn,hQ,_=>hQ s tm g w ds h hs (Tr.refl _ _) hn (.refl _)
 | o :: rest,k,hd,hall,hro,g,s,tm,w,ds,h,hs,hG,hn,hQ,hP=>by
  simp only [List.all_cons,Bool.and_eq_true] at hall hro
  have hlt:=dstOk_lt hall.1
  have hok:ops[k]? = some o:=by
   have:ops.toList[k]? = some o:=by
    have:=congrArg (fun l=>l[0]?) hd
    simpa using this
   rw [← Array.getElem?_toList]; exact this
  have hd':ops.toList.drop (k + 1) = rest:=by
   rw [← List.drop_drop,hd]; rfl
  have go:∀ {g1:Gh} {s1:St} {tm1:Array Value} {w1:World} {ds1:List Deferred},runOps E inl base ops rest s1 K = some r→DsTo o ds ds1→StR g1 s1 tm1 (dfs ds1++tms) w1→Tr g w g1 w1→tm1.size = n→wpOpsIn F N P ops Q (List.range' (k + 1) rest.length) ⟨tm1,ds1⟩ w1:=by
   intro g1 s1 tm1 w1 ds1 h1 hd1 hs1 ht1 hn1
   exact runOps_ok hE hW hI rest (k + 1) hd' hall.2 (hro.imp id (·.2)) h1 hs1 (hG.mono ht1.fz) hn1 (fun s' tm' g' w' ds' a b c d e=>hQ s' tm' g' w' ds' a b (ht1.trans c) d (hd1.go e)) (fun p s' tm' g' w' ds' a b c d e=>hP p s' tm' g' w' ds' a b (ht1.trans c) d (hd1.go e))
  have run:∀ {s1:St},StR g s1 tm (dfs ds++tms) w→exec1 E inl base o s1 (fun v s=>runOps E inl base ops rest { s with env:=putE o.dst v s.env } K) (fun p s=>K (.pan p) s) = some r→o.wpIn F N P ⟨tm,ds⟩ w (wpOpsIn F N P ops Q (List.range' (k + 1) rest.length)) Q:=by
   intro s1 hs1 h1
   refine exec1_ok hE hW hI hs1 hG h1 (hro.imp id (·.1)) (fun v s' g' z w' ds' a b c d e=>?_) (fun p s' g' w' a b c=>hP p s' tm g' w' ds a b c hn (.refl _))
   rw [put_defers]
   exact go a c (d.put (fun d hd=>by rw [hn]; exact hlt d hd) b ds') e (by rw [put_size]; exact hn)
  have skip:∀ {s1:St},StR g s1 tm (dfs ds++tms) w→runOps E inl base ops rest { s1 with env:=putE o.dst (.tup []) s1.env } K = some r→wpOpsIn F N P ops Q (List.range' (k + 1) rest.length) (Act.put ⟨tm,ds⟩ o.dst undef) w:=by
   intro s1 hs1 h1
   rw [put_defers]
   exact go h1 (.inl rfl) (hs1.put (fun d hd=>by rw [hn]; exact hlt d hd) (skipR g) ds) (Tr.refl _ _) (by rw [put_size]; exact hn)
  simp only [List.length_cons,List.range'_succ,wpOpsIn,hok]
  simp only [runOps] at h
  split at h
  ·rename_i hg
   have hw:Region.wanted o (yielded ops tm) = true:=by simp [Region.wanted,hg]
   rw [if_pos hw]
   exact run hs h
  ·rename_i j want hg
   split at h
   ·rename_i d hj
    have hw:Region.wanted o (yielded ops tm) = (yielded ops tm j == some want):=by simp [Region.wanted,hg]
    have hy:yielded ops tm j = match tm[d]? with | some (.bool b)=>some b | _=>none:=by unfold yielded; rw [hj]; rfl
    split at h
    ·rename_i b hb
     have hv:=hs.env d _ hb
     have hy':yielded ops tm j = some b:=by rw [hy,slot_bool hv]
     rw [hw,hy']
     cases b <;> cases want <;> simp only [cond_true,cond_false] at h
     ·rw [if_pos (by decide)]; exact run (hs.again hv) h
     ·rw [if_neg (by decide)]; exact ⟨fun f _=>hW.fn f,skip (hs.again hv) h⟩
     ·rw [if_neg (by decide)]; exact ⟨fun f _=>hW.fn f,skip (hs.again hv) h⟩
     ·rw [if_pos (by decide)]; exact run (hs.again hv) h
    ·rename_i hb
     have hv:=hs.env d _ hb
     have hy':yielded ops tm j = none:=by
      rw [hy]
      rcases slot_skip hv with h | h <;> rw [h]
     rw [hw,hy',if_neg (by cases want <;> decide)]
     exact ⟨fun f _=>hW.fn f,skip hs h⟩
    ·cases h
   ·cases h
end
end Go.V
