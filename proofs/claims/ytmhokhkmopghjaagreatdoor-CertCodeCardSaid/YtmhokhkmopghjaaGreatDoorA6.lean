/- Part of the proof. -/
import Derived.Scope
import Derived.RecoverIn
import Derived.ChangeArms
import Derived.OpenShut
import Derived.ChangeStays
import Derived.ReadAgain
import Derived.ChangeSame
import Derived.ChangeVars
import Derived.JoinedOf
import Derived.RowKit
import Derived.LaidLaws
import Derived.Handed
import Derived.Stop.Joined
import Derived.Test.YtmhokhkmopghjaaGreatDoorA5
set_option linter.all false
set_option linter.unusedVariables false
set_option linter.unusedSectionVars false
set_option linter.unusedSimpArgs false
namespace Go.V
variable [Codes]
section
variable {P:Program} {E:Env0}
def Ex.to:Ex→Exit
 | .normal=>.normal
 | .exit id=>.exit id
 | .ret=>.ret
 | .pan p=>.panic [Pan.entry p]
theorem zc8 {n m:Nat} (h:n≤m):∀ {c:Code},za6 n c = true→za6 m c = true:=by
 have one:∀ o:Oper,dstOk n o = true→dstOk m o = true:=by
  intro o ho
  unfold dstOk at ho ⊢
  split
  ·rename_i d hd
   rw [hd] at ho
   have:d < n:=Nat.le_of_ble_eq_true ho
   exact Nat.ble_eq_true_of_le (Nat.le_trans this h)
  ·rfl
 intro c
 induction c with
 | region id ops dr =>
  intro hc
  simp only [za6,List.all_eq_true] at hc ⊢
  exact fun o ho=>one o (hc o ho)
 | seq a b iha ihb=>intro hc; simp only [za6,sA] at hc ⊢; exact ⟨iha hc.1,ihb hc.2⟩
 | cond x a b iha ihb=>intro hc; simp only [za6,sA] at hc ⊢; exact ⟨iha hc.1,ihb hc.2⟩
 | block id c ih=>exact fun hc=>ih hc
 | scope c ih=>exact fun hc=>ih hc
 | loop c ih=>exact fun hc=>ih hc
 | rangeFunc q ps a b iha ihb =>
  intro hc
  simp only [za6,sA,List.all_eq_true] at hc ⊢
  exact ⟨fun p hp=>Nat.ble_eq_true_of_le (Nat.le_trans (Nat.le_of_ble_eq_true (hc.1 p hp)) h),iha hc.2.1,ihb hc.2.2⟩
 | _=>intro _; rfl
section
variable {P:Program} {b:Frame} {a:Act} {k:List Item} {cs:List Frame} {w:World} {Q:Exit→Act→World→Prop} {F:Fence} {n:Nat}
theorem zbT {c:Code}:step P (lone (b.atR a (.code (.scope c) :: k)) cs w) = .next (lone (b.atR a (.code c :: .inScope c :: k)) cs w) :=
 step_lone_go (by simp [stepG,stepG.exec,Frame.atR])
theorem zhF {c:Code}:step P (lone (b.atR a (.inScope c :: k)) cs w) = .next (lone (b.atR a k) cs w) :=
 step_lone_go (by simp [stepG,stepG.exec,Frame.atR])
theorem zd3 {c:Code} (h:c.wpIn F n P (Exit.noGoto Q) a w):(Code.scope c).wpIn F n P Q a w:=by
 intro b k cs hro hb hr
 have h0:(lone (b.atR a (.code (.scope c) :: k)) cs w).fenced P F:=fenced_calm hb hr rfl
 obtain ⟨e,a₁,w₁,hq,harr⟩:=h b (.inScope c :: k) cs hro hb hr
 cases e with
 | normal=>exact ⟨.normal,a₁,w₁,hq,.head h0 zbT (StepsIn.trans harr (.one (fenced_calm hb hr rfl) zhF))⟩
 | exit id =>
  have hx:exitTo id (.inScope c :: k) = exitTo id k:=by simp [exitTo]
  exact ⟨.exit id,a₁,w₁,hq,fun k' hk=>.head h0 zbT (harr.1 k' (by rw [hx]; exact hk)),
   fun hr' hk=>let ⟨k₁,h1,h2⟩:=harr.2 hr' (by rw [hx]; exact hk); ⟨k₁,h1,.head h0 zbT h2⟩⟩
 | goto l=>exact hq.elim
 | ret=>exact ⟨_,a₁,w₁,hq,.of_steps (.one h0 zbT) harr⟩
 | panic ch=>exact ⟨_,a₁,w₁,hq,.of_steps (.one h0 zbT) harr⟩
 | outgrown=>exact ⟨_,a₁,w₁,hq,.of_steps (.one h0 zbT) harr⟩
end
theorem ziF {α:Type} (k:Nat) (v:α):∀ (l:List (Nat × α)) (n:Nat),find (insA k v l) n = bif Nat.beq k n then some v else find l n
 | [],n=>by simp [insA,find]
 | (j,u) :: l,n=>by
  simp only [insA]
  cases h1:Nat.blt k j with
  | true=>simp only [cond_true,find]
  | false =>
   simp only [cond_false]
   cases h2:Nat.beq k j with
   | true =>
    have:=sB h2
    subst this
    simp only [cond_true,find]
    cases Nat.beq k n <;> rfl
   | false =>
    simp only [cond_false,find,ziF k v l n]
    cases h3:Nat.beq j n with
    | true =>
     have:=sB h3
     subst this
     rw [h2]
     rfl
    | false=>rfl
theorem zdK {α:Type}:∀ (l:List (Nat × α)) (n:Nat),find (normA l) n = find l n
 | [],_=>rfl
 | (k,v) :: l,n=>by simp only [normA,ziF,find,zdK l n]
theorem StR.normSt {g:Gh} {s:St} {tm:Array Value} {tms:List (Array Value)} {w:World} (h:StR g s tm tms w):StR g (V.normSt s) tm tms w :=
 ⟨fun n v e=>h.env n v (by rw [← e]; exact (zdK _ _).symm),h.stk,⟨fun k b e=>h.bxs.box k b (by rw [← e]; exact (zdK _ _).symm),fun k gb e=>by
  show (find (normA s.bxs) k).isSome = true
  rw [zdK]
  exact h.bxs.dom k gb e,h.bxs.sep⟩,h.fz⟩
theorem zdL:∀ {l:LRes} {x:Ent ⊕ (Ex × St)},x∈l→(∃ e∈(zeb l).1,x = .inl e) ∨ x∈(zeb l).2
 | .inl e :: l,x,hx=>by
  simp only [zeb]
  rcases List.mem_cons.1 hx with rfl | hx
  ·exact .inl ⟨e,List.mem_cons_self ..,rfl⟩
  ·rcases zdL hx with ⟨e',h1,h2⟩ | h
   ·exact .inl ⟨e',List.mem_cons_of_mem _ h1,h2⟩
   ·exact .inr h
 | .inr y :: l,x,hx=>by
  simp only [zeb]
  rcases List.mem_cons.1 hx with rfl | hx
  ·exact .inr (List.mem_cons_self ..)
  ·rcases zdL hx with ⟨e',h1,h2⟩ | h
   ·exact .inl ⟨e',h1,h2⟩
   ·exact .inr (List.mem_cons_of_mem _ h)
section
variable {P:Program} {E:Env0}
def zdr (P:Program) (E:Env0) (F:Fence) (N:Nat) (ops:Array Oper) (ds:List Deferred) (n:Nat) (T':List (Array Value)) (Q:Exit→Act→World→Prop) (p:Ex × St) (e:Ent):Prop :=
 ∀ (x:Option Nat) (hds:List Hd) {g:Gh} {tm:Array Value} {w:World},StR g e.2.2.2 tm (dfs ds++T') w→HidOK x g tm w e.2.2.1→zay E.C g.fz→tm.size = n →
   (∀ s' tm' g' w',(Ex.normal,normSt s') = p→StR g' s' tm' (dfs ds++T') w'→TrX x g w g' w'→tm'.size = n→Q .normal ⟨tm',ds⟩ w') →
   (∀ q s' tm' g' w',(Ex.pan q,normSt s') = p→StR g' s' tm' (dfs ds++T') w'→TrX x g w g' w'→tm'.size = n→Q (.panic [Pan.entry q]) ⟨tm',ds⟩ w') →
   e.1.size = ops.size→Closed ops e.1→Heads P g ops ds tm e.1 e.2.1 hds→(∀ h∈hds,h.live e.1→h.S w) →
   ∀ m,left e.1≤m→zcb F N P ops (QOff (zbt ops) Q) hds m e.1 ⟨tm,ds⟩ w
theorem zmq (hE : EnvOK P E) {F : Fence} (hW : Wide F) (hro : F.round = none) {N : Nat} {inl : Nat → Callee → List AV → St → (AV → St → Option LRes) → (Pan → St → Option LRes) → Option LRes} (hI : InlOK P E inl) {base : Nat} {ops : Array Oper} (hsel : Region.noSelect ops = true) (hD : ∀ i x, ops[i]? = some x → ∀ j ∈ V.deps x, j < i) {ds : List Deferred} {n : Nat} (hall : ops.toList.all (dstOk n) = true)
    {T' : List (Array Value)} {Q : Exit → Act → World → Prop} {p : Ex × St} :
    ∀ (fuel : Nat) (L : List Ent) (acc : LRes), zjT E inl base ops fuel L acc = some p → (∀ e ∈ L, zdr P E F N ops ds n T' Q p e) ∧ ∀ y ∈ acc, (∃ e, y = .inl e ∧ zdr P E F N ops ds n T' Q p e) ∨ y = .inr p := by
  intro fuel
  induction fuel with
  | zero => intro L acc h; cases h
  | succ fuel ih =>
    intro L acc h
    have step : ∀ (L : List Ent) (acc r : LRes), zfz E inl base ops L acc = some r → (∀ y ∈ r, (∃ e, y = .inl e ∧ zdr P E F N ops ds n T' Q p e) ∨ y = .inr p) → (∀ e ∈ L, zdr P E F N ops ds n T' Q p e) ∧ ∀ y ∈ acc, y ∈ r := by
      intro L
      induction L with
      | nil =>
        intro acc r h _
        simp only [zfz, sI] at h
        subst h
        exact ⟨fun _ h => (nomatch h), fun _ h => h⟩
      | cons e0 L ihL =>
        intro acc r h hr
        simp only [zfz] at h
        split at h
        · rename_i ra hra
          rw [Option.bind_eq_some_iff] at h
          obtain ⟨acc', h1, h2⟩ := h
          obtain ⟨h3, h4⟩ := zeH h1
          obtain ⟨h5, h6⟩ := ihL acc' r h2 hr
          refine ⟨fun e he => ?_, fun y hy => h6 y (h4 y hy)⟩
          rcases List.mem_cons.1 he with rfl | he
          · intro x hds g tm w hs hid hG hn hQ hP hsz hcl hH hL
            refine ziE hE hW hro hI hsel hD hall (K := fun x s => some [.inr (x, normSt s)]) (G := fun l => ∀ y ∈ l, (∃ e, y = .inl e ∧ zdr P E F N ops ds n T' Q p e) ∨ y = .inr p) (fun {_ _ _} h hgr => ?_) (fun go hgo listed held hid x hds {ra} {g} {s} {tm} {w} hra hgr hs hid_ok hG hn hQ hP hsz hcl hH hL => ?_) _ _ _ _ x hds hra (fun y hy => hr y (h6 y (h3 y hy))) hs hid hG hn (fun r' s' tm' g' w' a e b c d => ?_) (fun r' q s' tm' g' w' a e b c d => ?_) hsz hcl hH hL
            · obtain ⟨⟨ra, k1, k2⟩, rb, k3, k4⟩ := zi0 h
              exact ⟨⟨ra, k1, fun y hy => hgr y (k2 y hy)⟩, ⟨rb, k3, fun y hy => hgr y (k4 y hy)⟩⟩
            · cases hgo
              simp only [sI] at hra
              subst hra
              rcases hgr _ (List.mem_singleton.2 rfl) with ⟨e', he', hgood⟩ | he'
              · cases he'
                exact hgood x hds hs.normSt hid_ok hG hn (fun s' tm' g' w' a b c d => hQ _ s' tm' g' w' rfl (fun y hy => .inr (by rw [List.mem_singleton.1 hy, a])) b c d) (fun q s' tm' g' w' a b c d => hP _ q s' tm' g' w' rfl (fun y hy => .inr (by rw [List.mem_singleton.1 hy, a])) b c d) hsz hcl hH hL
              · cases he'
            · simp only [sI] at a
              subst a
              rcases e _ (List.mem_singleton.2 rfl) with ⟨_, he, _⟩ | he
              · cases he
              · exact hQ s' tm' g' w' (Sum.inr.inj he) b c d
            · simp only [sI] at a
              subst a
              rcases e _ (List.mem_singleton.2 rfl) with ⟨_, he, _⟩ | he
              · cases he
              · exact hP q s' tm' g' w' (Sum.inr.inj he) b c d
          · exact h5 e he
        · cases h
    simp only [zjT] at h
    split at h
    · rename_i R hst
      have done : (∀ y ∈ R, (∃ e, y = .inl e ∧ zdr P E F N ops ds n T' Q p e) ∨ y = .inr p) → (∀ e ∈ L, zdr P E F N ops ds n T' Q p e) ∧ ∀ y ∈ acc, (∃ e, y = .inl e ∧ zdr P E F N ops ds n T' Q p e) ∨ y = .inr p := by
        intro hR
        obtain ⟨h1, h2⟩ := step L acc R hst hR
        exact ⟨h1, fun y hy => hR y (h2 y hy)⟩
      split at h
      · rename_i x hsp
        cases h
        refine done (fun y hy => ?_)
        rcases zdL hy with ⟨e, he, _⟩ | he
        · rw [hsp] at he; cases he
        · rw [hsp] at he; exact .inr (List.mem_singleton.1 he)
      · cases h
      · rename_i L' outs _ _ hsp
        obtain ⟨h1, h2⟩ := ih L' outs h
        refine done (fun y hy => ?_)
        rcases zdL hy with ⟨e, he, hye⟩ | he
        · rw [hsp] at he; exact .inl ⟨e, hye, h1 e he⟩
        · rw [hsp] at he; exact h2 y he
    · cases h
end
abbrev Post {R:Type} (Q:Exit→Act→World→Prop) (K:Ex→St→Option R) (r:R) (N:Nat→Prop) (g:Gh) (tms:List (Array Value)) (w:World) (n:Nat):Prop :=
 ∀ (e:Ex) (s':St) (tm':Array Value) (g':Gh) (w':World) (ds':List Deferred),K e s' = some r→StR g' s' tm' (dfs ds'++tms) w'→Tr g w g' w'→tm'.size = n→Mk N g' w' ds'→Q e.to ⟨tm',ds'⟩ w'
theorem zjD {F : Fence} {M n l0 key : Nat} {N : Nat → Prop} {R : Type} {K : Ex → St → Option R} {r : R} {g g1 : Gh} {tm : Array Value} {tms : List (Array Value)} {w W1 : World} {Q : Exit → Act → World → Prop} {ds1 : List Deferred}
    {s' : St} {g' : Gh} {w' : World}
    (hk : (match s'.stk, find s'.bxs key with
      | env :: stk, some (.loop false _ _ _) => bif isYld s'.env key then K .normal { env := env, stk := stk, bxs := setB s'.bxs key .dead } else none
      | _, _ => none) = some r)
    (hs' : StR g' s' #[.func (.yield l0) #[] #[]] (tm :: (dfs ds1 ++ tms)) w') (t1 : Tr g w g1 W1) (t2 : Tr g1 W1 g' w') (hn : tm.size = n) (hm1 : Mk N g1 W1 ds1) (hQ : Post Q K r N g tms w n) :
    ∃ jump w4, (Instr.endLoop l0).run P w' = .ok jump w4 ∧ (match jump with | none => Q .normal ⟨tm, ds1⟩ w4 | some c => c.wpIn F M P Q ⟨tm, ds1⟩ w4) := by
  split at hk
  · rename_i env stk f1 i1 env1 hst hbx
    cases hy : isYld s'.env key with
    | false => rw [hy] at hk; cases hk
    | true =>
      rw [hy, cond_true] at hk
      have hv := hs'.env 0 _ (zfp hy)
      obtain ⟨gb1, q1, q2, q3⟩ := zjC hv rfl
      obtain ⟨gb2, p1, p2⟩ := hs'.bxs.box _ _ hbx
      rw [q1] at p1
      cases p1
      obtain ⟨p3, p4, l, tm2, D, fn2, cd2, p5, p6, p7, p8, p9, p10⟩ := p2
      rw [q3] at p5
      cases p5
      obtain ⟨w3, hw3⟩ : ∃ w3, w'.putObj l0 (.loop { state := .exhausted, pending := none, fn := fn2, tmps := tm2, params := cd2.ps.toArray, assign := cd2.assign, body := cd2.body, defers := D }) = w3 := ⟨_, rfl⟩
      have hlt := (Array.getElem?_eq_some_iff.1 p7).1
      obtain ⟨hs3, t3⟩ := hs'.upd q1 q3 p4 p10 (w' := w3) (by rw [← hw3]; rfl) (by rw [← hw3]; rfl) (by rw [← hw3]; rfl) (by rw [← hw3]; simp [World.putObj]) (fun b hb _ => by rw [← hw3]; exact World.putObj_heap_other hb) .dead
        ⟨p3, p4, _, _, q3, by rw [← hw3]; exact World.putObj_heap_same hlt, p10⟩
      refine ⟨none, w3, ?_, ?_⟩
      · rw [← hw3]; exact run_endLoop p7 (by simp)
      · have hstk := hs3.stk
        simp only [Eff.apply, hst] at hstk
        exact hQ .normal _ tm g' w3 _ hk ⟨hstk.1, hstk.2, hs3.bxs, hs3.fz⟩ (t1.trans (t2.trans t3)) hn ((hm1.tr t2).tr t3)
  · cases hk
theorem znv (hE : EnvOK P E) {F : Fence} (hW : Wide F) {M nt : Nat} {N : Nat → Prop} {d f base n : Nat} (hI : ∀ R : Type, InlOK (R := R) P E (zak E d)) (hnt : nt ≤ n) {q : Operand} {ps : Array Tmp} {a b : Code} (hround : F.round = none) (hcd : Codes.cd f (rid a b) = some ⟨ps.toList, a, b, nt⟩)
    {R : Type} {K : Ex → St → Option R} {r : R} {g : Gh} {s : St} {tm : Array Value} {tms : List (Array Value)} {w : World} {Q : Exit → Act → World → Prop} {ds : List Deferred}
    (h : runC E (zak E d) (zak E d) d f base (.rangeFunc q ps a b) s K = some r) (hs : StR g s tm (dfs ds ++ tms) w) (hG : zay E.C g.fz) (hn : tm.size = n) (hm : Mk N g w ds) (hN : ∀ r, w.heap.size ≤ r → N r)
    (hQ : Post Q K r N g tms w n) : (Code.rangeFunc q ps a b).wpIn F M P Q ⟨tm, ds⟩ w := by
  simp only [runC] at h
  split at h
  · rename_i f' caps hq
    obtain ⟨cv, hcv, hcaps⟩ := ev_ok hs hG hq ds
    simp only [sC, and_true] at hcv
    split at h
    · rename_i hfree
      obtain ⟨hent, hcall⟩ := (hI R).fn _ _ _ _ _ _ _ h
      refine wpIn_rangeFunc ?_
      intro fn hfn
      rw [hround]
      obtain ⟨rec, hrec⟩ : ∃ rec : LoopState → Loop, rec = fun st => { state := st, pending := none, fn, tmps := tm, params := ps, assign := a, body := b, defers := w.heap.size } := ⟨_, rfl⟩
      obtain ⟨W1, hW1⟩ : ∃ W1, (w.alloc (.deferred (some []))).alloc (.loop (rec .ready)) = W1 := ⟨_, rfl⟩
      have hL1 : W1.heap[w.heap.size + 1]? = some (.loop (rec .ready)) := by
        rw [← hW1]; have := World.alloc_heap_new (w.alloc (.deferred (some []))) (.loop (rec .ready)); rwa [World.size_alloc] at this
      have hK1 : W1.heap[w.heap.size]? = some (.deferred (some [])) := by
        rw [← hW1]; exact ((World.grownBy_alloc (w.alloc (.deferred (some []))) (.loop (rec .ready)) none).block _ (by simp) (by simp)).trans (World.alloc_heap_new w _)
      have hgrow : w.grownBy W1 none := by
        rw [← hW1]
        have h1 := World.grownBy_alloc w (.deferred (some [])) none
        have h2 := World.grownBy_alloc (w.alloc (.deferred (some []))) (.loop (rec .ready)) none
        exact ⟨h2.os.trans h1.os, h2.tape.trans h1.tape, h2.output.trans h1.output, Nat.le_trans h1.size h2.size, fun k hk hne => (h2.block k (Nat.lt_of_lt_of_le hk h1.size) hne).trans (h1.block k hk hne)⟩
      obtain ⟨key, hkey⟩ : ∃ key, key = zcS base a b := ⟨_, rfl⟩
      rw [← hkey] at h hfree hcall
      obtain ⟨gb, hgb⟩ : ∃ gb : Gb, gb = ⟨false, true, some (w.heap.size + 1), 0, 0, 0, 0, none⟩ := ⟨_, rfl⟩
      have hnf : ∀ o, g.fz (w.heap.size + 1) o = none := fun o => by
        cases e : g.fz (w.heap.size + 1) o with
        | none => rfl
        | some v => have := hs.fz.lt (b := w.heap.size + 1) (o := o) (by rw [e]; simp); omega
      have hx0 := zeM gb (hs.bxs.none hfree)
      have hbox : BoxR (g.put key gb) (.loop false f (rid a b) s.env) gb W1 := by
        refine ⟨by rw [hgb], by rw [hgb], w.heap.size + 1, tm, w.heap.size, fn, ⟨ps.toList, a, b, nt⟩, by rw [hgb], hcd, ?_, hs.env.grow hx0, (by show nt ≤ tm.size; omega), hnf⟩
        rw [hL1, hrec]
        simp
      obtain ⟨hs1, t1, hx1⟩ := hs.add hfree hgrow _ gb hbox (fun blk e1 _ => by rw [hgb] at e1; cases e1; omega)
      have hyld : VR (g.put key gb) (.yld key) (.func (.yield (w.heap.size + 1)) #[] #[]) := ⟨gb, w.heap.size + 1, Gh.put_same _ _ _, by rw [hgb], by rw [hgb], rfl⟩
      have hs2 : StR (g.put key gb) { env := [(0, .yld key)], stk := s.env :: s.stk, bxs := (key, .loop false f (rid a b) s.env) :: s.bxs } #[.func (.yield (w.heap.size + 1)) #[] #[]] (tm :: (dfs ds ++ tms)) W1 := by
        refine ⟨fun n v e => ?_, ⟨hs1.env, hs1.stk⟩, hs1.bxs, hs1.fz⟩
        by_cases hn0 : 0 = n
        · subst hn0
          rw [zad] at e
          cases e
          exact hyld
        · rw [zab _ _ hn0] at e; cases e
      have hm1 : Mk N (g.put key gb) W1 ({ target := .collected w.heap.size, args := #[] } :: ds) := by
        have hm0 := hm.tr t1
        refine ⟨fun d hd => ?_, List.pairwise_cons.2 ⟨fun d hd r e1 e2 => ?_, hm0.apart⟩⟩
        · rcases List.mem_cons.1 hd with rfl | hd
          · refine .inl ⟨w.heap.size, rfl, hN _ (Nat.le_refl _), hK1, ?_⟩
            rintro ⟨k, gb', e1, e2, e3⟩
            by_cases hk : k = key
            · subst hk
              rw [Gh.put_same] at e1
              cases e1
              rw [hgb] at e2
              simp at e2
            · rw [Gh.put_other _ _ hk] at e1
              have := hs.bxs.lt ⟨k, gb', e1, e2, e3⟩
              omega
          · exact hm0.mem d hd
        · simp only [Target.collected.injEq] at e1
          subst e1
          rcases hm.mem d hd with ⟨r', rfl, _, e4, _⟩ | ⟨f, cap, args, rfl⟩
          · simp only [Target.collected.injEq] at e2
            subst e2
            have := (Array.getElem?_eq_some_iff.1 e4).1
            omega
          · cases e2
      refine ⟨w.heap.size + 1, [{ target := .collected w.heap.size, args := #[] }], W1, { target := .fn (.func f') cv, args := #[.func (.yield (w.heap.size + 1)) #[] #[]] }, W1, f',
        #[.func (.yield (w.heap.size + 1)) #[] #[]] ++ cv, W1, ?_, ?_, fun f2 _ => hW.fn f2, ?_, hW.deep M, ?_⟩
      · rw [← hW1, hrec]; exact run_enterLoop_outer _ _ _ _ _
      · simp only [resolve, hcv]
        simp [go_sem]
      · simp only [invoke]
        exact zca hent _ _
      · have hvs : VsR (g.put key gb) (.yld key :: caps) ((#[Value.func (.yield (w.heap.size + 1)) #[] #[]] : Array Value) ++ cv).toList := by
          rw [Array.toList_append]
          exact ⟨hyld, (hcaps.vsR).grow' hx1⟩
        have hc := hcall (g.put key gb) #[.func (.yield (w.heap.size + 1)) #[] #[]] (tm :: (dfs ds ++ tms)) W1 (#[.func (.yield (w.heap.size + 1)) #[] #[]] ++ cv) hs2 (hG.mono t1.fz) hvs
        refine hW.calls.2 (Calls.mono hc ?_)
        rintro e w' (⟨v, av, s', g', rfl, hk, _, hs', t2⟩ | ⟨p, s', g', rfl, hk, _⟩)
        · exact zjD (ds1 := { target := .collected w.heap.size, args := #[] } :: ds) hk hs' t1 t2 hn hm1 hQ
        · cases hk
    · cases h
  · cases h
theorem zhG (hE : EnvOK P E) {F : Fence} (hW : Wide F) {M nt : Nat} {N : Nat → Prop} {d f n : Nat} (hI : ∀ R : Type, InlOK (R := R) P E (zak E d)) (hnt : nt ≤ n) : ∀ (c : Code) {base : Nat}, za6 n c = true → zaW (E.totOf f) c = true →
    (∀ base, ∀ b ∈ zaz c, ∀ l, findL E.L ⟨d, base, f, zas b⟩ = some l → zan E d f base b l) → (F.round = none ∨ zaO (E.totOf f) c = true) → (∀ x ∈ zal nt c, Codes.cd f x.1 = some x.2) →
    ∀ {R : Type} {K : Ex → St → Option R} {r : R} {g : Gh} {s : St} {tm : Array Value} {tms : List (Array Value)} {w : World} {Q : Exit → Act → World → Prop} {ds : List Deferred},
      runC E (zak E d) (zak E d) d f base c s K = some r → StR g s tm (dfs ds ++ tms) w → zay E.C g.fz → tm.size = n → Mk N g w ds → ((∀ r, w.heap.size ≤ r → N r) ∨ zaO (E.totOf f) c = true) →
      Post Q K r N g tms w n → c.wpIn F M P Q ⟨tm, ds⟩ w := by
  intro c base
  induction c generalizing base with
  | skip => intro _ _ _ _ _ R K r g s tm tms w Q ds h hs hG hn hm hN hQ; exact wpIn_skip (hQ .normal s tm g w ds h hs (Tr.refl _ _) hn hm)
  | region id ops dr =>
    intro hd hw _ hro _ R K r g s tm tms w Q ds h hs hG hn hm hN hQ
    cases dr with
    | true =>
      simp only [runC, cond_true] at h
      simp only [zaW, Bool.not_true, Bool.false_or] at hw
      cases htot : (E.totOf f).contains id with
      | true =>
       rw [htot, cond_true] at h hw
       have hr0 : F.round = none := hro.resolve_right (by simp only [zaO, htot]; simp)
       have ht : Tr g w g w.drew := Tr.grow ⟨rfl, rfl, rfl, Nat.le_refl _, fun _ _ _ => rfl⟩
       simp only [sA] at hw
       have hDp : ∀ i x, ops[i]? = some x → ∀ j ∈ V.deps x, j < i := fun i x hx j hj => by
         have := zgR (ops := ops) hw.2 i x (by rw [Array.getElem?_toList]; exact hx) j hj
         omega
       have hno : ∀ j, ¬ Done (Array.replicate ops.size false) j := by
         intro j h
         unfold Done at h
         simp only [Array.getD_eq_getD_getElem?, Array.getElem?_replicate] at h
         split at h <;> simp at h
       cases hv : (E.vary && !E.sym) with
       | true =>
        rw [hv, cond_true, Option.bind_eq_some_iff] at h
        obtain ⟨p, hp1, hp2⟩ := h
        refine Go.wpIn_mono (wpIn_region_any hE.mixed (zcb.plain _ ((zmq hE hW hr0 (hI LRes) hw.1 hDp hd (ds := ds) (T' := tms) (Q := Q) _ _ _ hp1).1 _ (List.mem_singleton.2 rfl) none [] (hs.grow (w' := w.drew) (fun _ _ => rfl)) rfl hG hn (fun s' tm' g' w' a b c d => hQ .normal (normSt s') tm' g' w' ds (by rw [← a] at hp2; exact hp2) b.normSt (ht.trans c.tr) d (hm.tr (ht.trans c.tr))) (fun p s' tm' g' w' a b c d => hQ (.pan p) (normSt s') tm' g' w' ds (by rw [← a] at hp2; exact hp2) b.normSt (ht.trans c.tr) d (hm.tr (ht.trans c.tr))) (by simp) (fun k _ _ hk => absurd hk (hno k)) (fun _ h => nomatch h) (fun _ h => nomatch h) _ (by simp [left, List.countP_replicate])))) (fun _ _ _ h => h.imp)
       | false =>
        rw [hv, cond_false] at h
        refine Go.wpIn_mono (wpIn_region_any hE.mixed (zcb.plain _ (ziE hE hW hr0 (hI R) hw.1 hDp hd (ds := ds) (T' := tms) (Q := Q) (G := fun x => x = r) (br := none) (fun {_ _ _} h e => ⟨⟨_, (zfs h).1, e⟩, ⟨_, (zfs h).2, e⟩⟩) (fun _ h => nomatch h) _ _ _ none none [] h rfl (hs.grow (w' := w.drew) (fun _ _ => rfl)) rfl hG hn (fun r' s' tm' g' w' a e b c d => hQ .normal s' tm' g' w' ds (by rw [← e]; exact a) b (ht.trans c.tr) d (hm.tr (ht.trans c.tr))) (fun r' p s' tm' g' w' a e b c d => hQ (.pan p) s' tm' g' w' ds (by rw [← e]; exact a) b (ht.trans c.tr) d (hm.tr (ht.trans c.tr))) (by simp) (fun k _ _ hk => absurd hk (hno k)) (fun _ h => nomatch h) (fun _ h => nomatch h) _ (by simp [left, List.countP_replicate])))) (fun _ _ _ h => h.imp)
      | false =>
      rw [htot, cond_false] at h hw
      exact zmk hE hW (hI R) hE.mixed hw hd rfl h hs hG hn (fun s' tm' g' w' a b c d => hQ .normal s' tm' g' w' ds a b c d (hm.tr c)) (fun p s' tm' g' w' a b c d => hQ (.pan p) s' tm' g' w' ds a b c d (hm.tr c))
    | false =>
      simp only [runC, cond_false] at h
      refine wpIn_region ?_
      have := ziv hE hW (hI R) (N := M) (n := n) (Q := Q) (K := K) ops.toList 0 rfl hd (hro.imp (fun h => h) (fun h => by simp only [zaO, sA] at h; exact h.1)) h hs hG hn (fun s' tm' g' w' ds' a b c d e => hQ .normal s' tm' g' w' ds' a b c d ((hm.go e).tr c)) (fun p s' tm' g' w' ds' a b c d e => hQ (.pan p) s' tm' g' w' ds' a b c d ((hm.go e).tr c))
      rw [Array.length_toList] at this
      rw [List.range_eq_range']
      exact this
  | seq a b iha ihb =>
    intro hd hw hl hro hcd R K r g s tm tms w Q ds h hs hG hn hm hN hQ
    simp only [za6, sA] at hd
    simp only [zaW, sA] at hw
    simp only [runC] at h
    simp only [zaO, sA] at hro hN
    refine wpIn_seq (iha hd.1 hw.1 (fun bs b' hb' => hl bs b' (by simp [zaz, hb'])) (hro.imp id (·.1)) (fun x hx => hcd x (by simp [zal, hx])) h hs hG hn hm (hN.imp id (·.1)) ?_)
    intro e s' tm' g' w' ds' hk hs' ht hn' hm'
    cases e with
    | normal => exact ihb hd.2 hw.2 (fun bs b' hb' => hl bs b' (by simp [zaz, hb'])) (hro.imp id (·.2)) (fun x hx => hcd x (by simp [zal, hx])) hk hs' (hG.mono ht.fz) hn' hm' (hN.imp (fun h r hr => h r (Nat.le_trans ht.size hr)) (·.2)) (fun e s2 tm2 g2 w2 ds2 a b c d m => hQ e s2 tm2 g2 w2 ds2 a b (ht.trans c) d m)
    | exit id => exact hQ (.exit id) s' tm' g' w' ds' hk hs' ht hn' hm'
    | ret => exact hQ .ret s' tm' g' w' ds' hk hs' ht hn' hm'
    | pan p => exact hQ (.pan p) s' tm' g' w' ds' hk hs' ht hn' hm'
  | cond x a b iha ihb =>
    intro hd hw hl hro hcd R K r g s tm tms w Q ds h hs hG hn hm hN hQ
    simp only [za6, sA] at hd
    simp only [zaW, sA] at hw
    simp only [zaO, sA] at hro hN
    simp only [runC] at h
    split at h
    · rename_i t hx
      have hcv : [Act.eval ⟨tm, ds⟩ x] = [Value.bool t] := ev_ok hs hG hx ds
      simp only [sC, and_true] at hcv
      cases t
      · exact wpIn_cond_false hcv (ihb hd.2 hw.2 (fun bs b' hb' => hl bs b' (by simp [zaz, hb'])) (hro.imp id (·.2)) (fun x hx => hcd x (by simp [zal, hx])) h hs hG hn hm (hN.imp id (·.2)) hQ)
      · exact wpIn_cond_true hcv (iha hd.1 hw.1 (fun bs b' hb' => hl bs b' (by simp [zaz, hb'])) (hro.imp id (·.1)) (fun x hx => hcd x (by simp [zal, hx])) h hs hG hn hm (hN.imp id (·.1)) hQ)
    · cases h
  | scope c ih =>
    intro hd hw hl hro hcd R K r g s tm tms w Q ds h hs hG hn hm hN hQ
    simp only [runC] at h
    refine zd3 (ih hd hw hl hro hcd h hs hG hn hm hN ?_)
    intro e s' tm' g' w' ds' hk hs' ht hn' hm'
    have := hQ e s' tm' g' w' ds' hk hs' ht hn' hm'
    cases e <;> exact this
  | label l =>
    intro hd hw hl hro hcd R K r g s tm tms w Q ds h hs hG hn hm hN hQ
    simp only [runC] at h
    exact wpIn_label (hQ .normal s tm g w ds h hs (Tr.refl _ _) hn hm)
  | block id c ih =>
    intro hd hw hl hro hcd R K r g s tm tms w Q ds h hs hG hn hm hN hQ
    simp only [runC] at h
    refine wpIn_block (ih hd hw hl hro hcd h hs hG hn hm hN ?_)
    intro e s' tm' g' w' ds' hk hs' ht hn' hm'
    cases e with
    | normal => exact hQ .normal s' tm' g' w' ds' hk hs' ht hn' hm'
    | ret => exact hQ .ret s' tm' g' w' ds' hk hs' ht hn' hm'
    | pan p => exact hQ (.pan p) s' tm' g' w' ds' hk hs' ht hn' hm'
    | exit i =>
      simp only [Ex.to, Exit.inBlock]
      by_cases hi : i = id
      · subst hi
        rw [if_pos rfl]
        simp only [Nat.beq_refl, cond_true] at hk
        exact hQ .normal s' tm' g' w' ds' hk hs' ht hn' hm'
      · rw [if_neg hi]
        simp only [zb6 hi, cond_false] at hk
        exact hQ (.exit i) s' tm' g' w' ds' hk hs' ht hn' hm'
  | loop c ih =>
    intro hd hw hl hro hcd R K r g s tm tms w Q ds h hs hG hn hm hN hQ
    simp only [runC] at h
    split at h
    · rename_i l hfl
      obtain ⟨hok, step, h1, h2, h3⟩ := hl _ c (by simp [zaz]) l hfl
      simp only [LSpec.ok, sA] at hok
      unfold zll at h
      split at h
      · rename_i s1 hth
        obtain ⟨g1, hs1, t1⟩ := zeT hs hth
        obtain ⟨x, g2, h4, hs2, t2⟩ := zki hok.1 hs1 h
        rw [Option.bind_eq_some_iff] at h4
        obtain ⟨o, ho, hK⟩ := h4
        obtain ⟨k0, hk0⟩ := h1 x o ho
        refine wpIn_loop_ghost (fun k a w1 => ∃ x g1, step k x = some o ∧ StR g1 (l.head.enc x) a.tmps (dfs a.defers ++ tms) w1 ∧ Tr g w g1 w1 ∧ a.tmps.size = n ∧ Mk N g1 w1 a.defers) k0 ⟨x, g2, hk0, hs2, t1.trans t2, hn, hm.tr (t1.trans t2)⟩ ?_
        rintro k ⟨tm1, ds1⟩ w1 ⟨x1, g3, hx1, hs3, t3, hn1, hm1⟩
        simp only at hs3 hn1 hm1
        cases k with
        | zero => rw [h2] at hx1; cases hx1
        | succ k =>
          have hb := h3 k x1 o hx1
          unfold runB at hb
          refine ih hd hw (fun bs b' hb' => hl bs b' (by simp [zaz, hb'])) hro hcd hb hs3 (hG.mono t3.fz) hn1 hm1 (hN.imp (fun h r hr => h r (Nat.le_trans t3.size hr)) id) ?_
          intro e s' tm' g' w' ds' hk hs' ht hn' hm'
          have out : ∀ e : Ex, zgq e s' l.outs = some o → Q e.to ⟨tm', ds'⟩ w' := by
            intro e hk
            obtain ⟨A, y, g4, h5, h6, h7⟩ := ziu hs' hok.2 hk
            rw [h5] at hK
            exact hQ e _ tm' g4 w' ds' hK h6 ((t3.trans ht).trans h7) hn' (hm'.tr h7)
          cases e with
          | normal =>
            obtain ⟨x2, g4, h5, h6, h7⟩ := zki hok.1 hs' hk
            exact ⟨k, Nat.lt_succ_self k, x2, g4, h5, h6, (t3.trans ht).trans h7, hn', hm'.tr h7⟩
          | exit i => exact out (.exit i) hk
          | ret => exact out .ret hk
          | pan p => exact out (.pan p) hk
      · cases h
    · -- round by round
      refine wpIn_loop_ghost (fun k a w1 => ∃ s1 g1, zlm (fun k s K => runC E (zak E d) (zak E d) d f (bif E.vary then (base + 999) * 1000000 + k * 1000 else base) c s K) k s1 K = some r ∧ StR g1 s1 a.tmps (dfs a.defers ++ tms) w1 ∧ Tr g w g1 w1 ∧ a.tmps.size = n ∧ Mk N g1 w1 a.defers) E.fuel ⟨s, g, h, hs, Tr.refl _ _, hn, hm⟩ ?_
      rintro k ⟨tm1, ds1⟩ w1 ⟨s1, g3, hx1, hs3, t3, hn1, hm1⟩
      simp only at hs3 hn1 hm1
      cases k with
      | zero => cases hx1
      | succ k =>
        refine ih hd hw (fun bs b' hb' => hl bs b' (by simp [zaz, hb'])) hro hcd hx1 hs3 (hG.mono t3.fz) hn1 hm1 (hN.imp (fun h r hr => h r (Nat.le_trans t3.size hr)) id) ?_
        intro e s' tm' g' w' ds' hk hs' ht hn' hm'
        cases e with
        | normal => exact ⟨k, Nat.lt_succ_self k, s', g', hk, hs', t3.trans ht, hn', hm'⟩
        | exit i => exact hQ (.exit i) _ tm' g' w' ds' hk hs' (t3.trans ht) hn' hm'
        | ret => exact hQ .ret _ tm' g' w' ds' hk hs' (t3.trans ht) hn' hm'
        | pan p => exact hQ (.pan p) _ tm' g' w' ds' hk hs' (t3.trans ht) hn' hm'
  | exit id => intro _ _ _ _ _ R K r g s tm tms w Q ds h hs hG hn hm hN hQ; exact wpIn_exit (hQ (.exit id) s tm g w ds h hs (Tr.refl _ _) hn hm)
  | ret => intro _ _ _ _ _ R K r g s tm tms w Q ds h hs hG hn hm hN hQ; exact wpIn_ret (hQ .ret s tm g w ds h hs (Tr.refl _ _) hn hm)
  | rangeFunc q ps a b =>
    intro hd hw hl hro hcd R K r g s tm tms w Q ds h hs hG hn hm hN hQ
    exact znv hE hW hI hnt (hro.resolve_right (fun h => nomatch h)) (hcd (rid a b, ⟨ps.toList, a, b, nt⟩) (by simp [zal])) h hs hG hn hm (hN.resolve_right (fun h => nomatch h)) hQ
  | goto l => intro _ _ _ _ _ R K r g s tm tms w Q ds h; simp [runC] at h
  | refuse l => intro _ _ _ _ _ R K r g s tm tms w Q ds h; simp [runC] at h
def ziG (tm:Array Value):ResultVar→Sem Value
 | .tmp t=>pure (tm.getD t undef)
 | .cell a t=>do loadVar t (← asAddr (tm.getD a undef))
theorem zbU (hC:CfgOK E.C P) {g:Gh} {s:St} {tm:Array Value} {tms:List (Array Value)} {w:World} (hs:StR g s tm tms w):∀ {l:List ResultVar} {vs:List AV},resOf E.C s l = some vs →
  ∃ cs,(l.mapM (ziG tm)).run P w = .ok cs w∧VsR g vs cs∧vs.all AV.okGs = true
 | [],vs,h=>by
  simp only [resOf,sI] at h
  subst h
  exact ⟨[],rfl,trivial,rfl⟩
 | .tmp t :: l,vs,h=>by
  simp only [resOf] at h
  split at h
  ·rename_i v hv
   cases hk:v.okGs
   ·rw [hk] at h; cases h
   ·rw [hk] at h
    simp only [cond_true,Option.map_eq_some_iff] at h
    obtain ⟨r,hr,rfl⟩:=h
    obtain ⟨cs,h1,h2,h3⟩:=zbU hC hs hr
    refine ⟨tm.getD t undef :: cs,?_,⟨hs.env t v hv,h2⟩,by simp [hk,h3]⟩
    have h6:(ziG tm (.tmp t)).run P w = .ok (tm.getD t undef) w:=rfl
    rw [List.mapM_cons,Sem.run_bind,h6,Result.andThen_ok,Sem.run_bind,h1]
    rfl
  ·cases h
 | .cell a t :: l,vs,h=>by
  simp only [resOf] at h
  split at h
  ·rename_i p hp
   split at h
   ·rename_i c v e hv
    cases hk:v.okGs
    ·rw [hk] at h; cases h
    ·rw [hk] at h
     simp only [cond_true,Option.map_eq_some_iff] at h
     obtain ⟨r,hr,rfl⟩:=h
     obtain ⟨cs,h1,h2,h3⟩:=zbU hC hs hr
     obtain ⟨_,y,h4,h5⟩:=zho hC hs hv (hs.env a p hp)
     refine ⟨y :: cs,?_,⟨h5.vr',h2⟩,by simp [hk,h3]⟩
     have h6:(ziG tm (.cell a t)).run P w = .ok y w:=by
      show (do loadVar t (← asAddr (tm.getD a undef)):Sem Value).run P w = .ok y w
      have hpt:∃ ad,tm.getD a undef = .pointer (some ad):=by
       refine zfn (hs.env a p hp) ?_
       unfold loadV at hv
       split at hv <;> first | rfl | (cases hv)
      obtain ⟨ad,had⟩:=hpt
      rw [had] at h4 ⊢
      have e1:(Instr.sureAddr (.pointer (some ad))).run P w = .ok ad w:=rfl
      have e2:(asAddr (.pointer (some ad))).run P w = .ok ad w:=rfl
      unfold Instr.loadAt at h4
      rw [Sem.run_bind,e1] at h4
      rw [Sem.run_bind,e2]
      exact h4
     rw [List.mapM_cons,Sem.run_bind,h6,Result.andThen_ok,Sem.run_bind,h1]
     rfl
   ·cases h
  ·cases h
theorem zcu {fn:Func} {tm:Array Value} {w:World} {cs:List Value}
  (h:(fn.results.toList.mapM (ziG tm)).run P w = .ok cs w):(results fn tm).run P w = .ok (zdn cs) w:=by
 have e0:results fn tm = (do let vs ← fn.results.mapM (ziG tm); pure (if h:vs.size = 1 then vs[0] else .tuple vs)):=rfl
 rw [e0,Array.mapM_eq_mapM_toList,Sem.run_bind,Sem.run_map,h]
 simp only [Result.andThen_ok,Sem.run_pure]
 match cs with
 | []=>rfl
 | [c]=>rfl
 | c :: d :: l=>simp [zdn]
theorem zc9 {g:Gh} {args:List AV} {vals:Array Value} (h:VsR g args vals.toList) (k:Nat):EnvR g (params 0 args) (vals++Array.replicate k undef):=by
 intro n v e
 obtain ⟨i,e1,c,h1,h2⟩:=zfR h n v e
 have:i = n:=by omega
 subst this
 have hlt:i < vals.size:=by
  rw [← Array.length_toList]
  exact (List.getElem?_eq_some_iff.1 h1).1
 rw [Array.getD_eq_getD_getElem?,Array.getElem?_append_left hlt,← Array.getElem?_toList,h1]
 exact h2
theorem zks (hE:EnvOK P E) {f:Nat} {fn:Func} (h:find E.F f = some fn):zaA P f:=by
 obtain ⟨h1,h2⟩:=hE.func f fn h
 unfold funOk at h2
 split at h2
 ·rename_i c hc
  simp only [sA,Bool.not_eq_true'] at h2
  exact ⟨fn,h1,h2.2,by rw [hc]; rfl⟩
 ·cases h2
theorem zev {tot:List Nat} {fn:Func} {c:Code} (h:funOk tot fn = true) (hb:fn.body = some c):za6 fn.ntmps c = true∧zaW tot c = true∧idsOk ((zal fn.ntmps c).map (·.1)) = true:=by
 unfold funOk at h
 rw [hb] at h
 simp only [sA] at h
 exact ⟨h.1.1.1.1.1,h.1.1.1.1.2,h.1.1.2⟩
theorem zhH (hE:EnvOK P E) {f:Nat} {fn:Func} {c:Code} (hf:find E.F f = some fn) (hb:fn.body = some c):∀ x∈zal fn.ntmps c,Codes.cd f x.1 = some x.2:=by
 intro x hx
 rw [hE.codes f fn c hf hb]
 exact zkr (zev (hE.func f fn hf).2 hb).2.2 hx
theorem ziH {g:Gh} {w:World} {ds:List Deferred} (h:Mk (fun _=>False) g w ds) {e:Env} {l:List Env} {tms:List (Array Value)} {b:Nat} (hs:StkR g (e :: l) (dfs ds++tms)) (hy:isYld e b = true):ds = []:=by
 cases ds with
 | nil=>rfl
 | cons d ds =>
  rcases h.mem d (by simp) with ⟨_,_,hf,_⟩ | ⟨f,cap,args,rfl⟩
  ·exact hf.elim
  ·obtain ⟨_,_,_,_,_,e1⟩:=hs.1 0 _ (zfp hy)
   simp [zjv] at e1
theorem znw (hE : EnvOK P E) {d base : Nat} (hI : ∀ R : Type, InlOK (R := R) P E (zak E d)) {R : Type} {b f id : Nat} {env : Env} {fn : Func} {c : Code} {cd : LCode} {args : List AV} {s : St} {K : AV → St → Option R} {r : R} {g : Gh} {tm : Array Value} {tms : List (Array Value)} {w : World} {l : Nat}
    (hf : find E.F f = some fn) (hb : fn.body = some c) (hx : (id, cd) ∈ zal fn.ntmps c) (hna : zaO (E.totOf f) cd.assign = true) (hnb : zaO (E.totOf f) cd.body = true)
    (h : (runC E (zak E d) (zak E d) d f (base * 1000) cd.assign { env := putL cd.ps args env, stk := [(0, .yld b)] :: s.env :: s.stk, bxs := s.bxs } fun e s1 => match e, s1.stk, find s1.bxs b with
      | .normal, e0 :: _, some (.loop false f1 i1 env1) => bif isYld e0 b && (Nat.beq f1 f && Nat.beq i1 id) then
          runC E (zak E d) (zak E d) d f (base * 1000) cd.body { s1 with bxs := setB s1.bxs b (.loop true f id env1) } fun e s2 => match e, s2.stk, find s2.bxs b with
            | .normal, e1 :: env0 :: stk, some (.loop true f2 i2 env2) => bif isYld e1 b && (Nat.beq f2 f && Nat.beq i2 id) then K (.val .bool true) { env := env0, stk := stk, bxs := setB s2.bxs b (.loop false f id env2) } else none
            | _, _, _ => none
        else none
      | _, _, _ => none) = some r)
    {tm0 : Array Value} (he : EnvR g (putL cd.ps args env) tm0) (hn0 : fn.ntmps ≤ tm0.size) (hs : StR g s tm tms w) (hG : zay E.C g.fz) (hy0 : VR g (.yld b) (.func (.yield l) #[] #[])) {F : Fence} {n : Nat} (hW : Wide F) (fr : FuncId) :
    RoundIn F n P l fr tm0 cd.assign cd.body w fun e w' => ∃ v av s' g', e = .returned v ∧ K av s' = some r ∧ VR g' av v ∧ StR g' s' tm tms w' ∧ Tr g w g' w' := by
  have hfo := zev (hE.func f fn hf).2 hb
  obtain ⟨d1, d2, d3⟩ := zeu hfo.1 hx
  obtain ⟨w1, w2⟩ := zgl hfo.2.1 hx
  obtain ⟨l1, l2⟩ := zgm hx
  refine roundIn_of_wpIn (hW.fn fr) ?_
  have hs0 : StR g { env := putL cd.ps args env, stk := [(0, .yld b)] :: s.env :: s.stk, bxs := s.bxs } tm0 (#[.func (.yield l) #[] #[]] :: tm :: tms) w := by
    refine ⟨he, ⟨fun m v e => ?_, hs.env, hs.stk⟩, hs.bxs, hs.fz⟩
    by_cases hm : 0 = m
    · subst hm
      rw [zad] at e
      cases e
      exact hy0
    · rw [zab _ _ hm] at e; cases e
  have loops : ∀ cb : Code, (∀ x ∈ zaz cb, x ∈ zaz c) → ∀ bs, ∀ x ∈ zaz cb, ∀ l, findL E.L ⟨d, bs, f, zas x⟩ = some l → zan E d f bs x l :=
    fun cb hsub bs x hx l hl => hE.loop d _ f fn c x l hf hb (hsub x hx) hl
  have noRanges : ∀ cb : Code, zaO (E.totOf f) cb = true → ∀ x ∈ zal fn.ntmps cb, Codes.cd f x.1 = some x.2 := by
    intro cb hcb x hx
    have : ∀ {cb : Code}, zaO (E.totOf f) cb = true → zal fn.ntmps cb = [] := by
      intro cb
      induction cb with
      | seq a b iha ihb => intro h; simp only [zaO, sA] at h; simp only [zal, iha h.1, ihb h.2, List.append_nil]
      | cond q a b iha ihb => intro h; simp only [zaO, sA] at h; simp only [zal, iha h.1, ihb h.2, List.append_nil]
      | block id c ih => intro h; exact ih h
      | scope c ih => intro h; exact ih h
      | loop c ih => intro h; exact ih h
      | rangeFunc q ps a b _ _ => intro h; cases h
      | _ => intro _; rfl
    rw [this hcb] at hx
    cases hx
  refine zhG hE (hW.inRound l) (N := fun _ => False) (ds := []) (tms := #[.func (.yield l) #[] #[]] :: tm :: tms) hI hn0 cd.assign (zc8 hn0 d2) w1 (loops _ l1) (.inr hna) (noRanges _ hna) h hs0 hG rfl Mk.nil (.inr hna) ?_
  intro e s1 tm1 g1 w1' ds1 hk hs1 t1 hn1 hm1
  dsimp only at hk
  split at hk
  · rename_i e0 rest f1 i1 env1 hst hbx
    cases hc : (isYld e0 b && (Nat.beq f1 f && Nat.beq i1 id)) with
    | false => rw [hc] at hk; cases hk
    | true =>
      rw [hc, cond_true] at hk
      simp only [sA] at hc
      have hf1 := sB hc.2.1
      have hi1 := sB hc.2.2
      subst hf1 hi1
      have hstk1 := hs1.stk
      rw [hst] at hstk1
      have hds1 : ds1 = [] := ziH hm1 hstk1 hc.1
      subst hds1
      obtain ⟨gb1, q1, q2, q3⟩ := zjC (hstk1.1 0 _ (zfp hc.1)) rfl
      obtain ⟨gb1', p1, p2⟩ := hs1.bxs.box _ _ hbx
      rw [q1] at p1
      cases p1
      obtain ⟨p3, p4, l', tmr, D, fnr, cdr, p5, p6, p7, p8, p9, p10⟩ := p2
      rw [q3] at p5
      cases p5
      have hlt := (Array.getElem?_eq_some_iff.1 p7).1
      refine ⟨_, run_beginRound p7 rfl, ?_⟩
      obtain ⟨w2', hw2⟩ : ∃ w2', w1'.putObj l (.loop { state := .busy, pending := none, fn := fnr, tmps := tmr, params := cdr.ps.toArray, assign := cdr.assign, body := cdr.body, defers := D }) = w2' := ⟨_, rfl⟩
      obtain ⟨hs2, t2⟩ := hs1.upd q1 q3 p4 p10 (w' := w2') (by rw [← hw2]; rfl) (by rw [← hw2]; rfl) (by rw [← hw2]; rfl) (by rw [← hw2]; simp [World.putObj]) (fun b hb _ => by rw [← hw2]; exact World.putObj_heap_other hb) (.loop true f1 i1 env1)
        ⟨p3, p4, l, tmr, D, fnr, cdr, q3, p6, by rw [← hw2]; exact World.putObj_heap_same hlt, p8, p9, p10⟩
      have hw2' : w1'.putObj l (.loop { state := .busy, pending := none, fn := fnr, tmps := tmr, params := cdr.ps.toArray, assign := cdr.assign, body := cdr.body, defers := D }) = w2' := hw2
      show cd.body.wpIn (F.inRound l) n P _ ⟨tm1, []⟩ (w1'.putObj l (.loop { state := .busy, pending := none, fn := fnr, tmps := tmr, params := cdr.ps.toArray, assign := cdr.assign, body := cdr.body, defers := D }))
      rw [hw2']
      have tt := t1.trans t2
      refine zhG hE (hW.inRound l) (N := fun _ => False) (ds := []) (tms := #[.func (.yield l) #[] #[]] :: tm :: tms) hI (n := tm1.size) (by rw [hn1]; exact hn0) cd.body (zc8 (by rw [hn1]; exact hn0) d3) w2 (loops _ l2) (.inr hnb) (noRanges _ hnb) hk hs2 (hG.mono tt.fz) rfl (hm1.tr t2) (.inr hnb) ?_
      intro e s2 tm2 g2 w3 ds2 hk2 hs3 t3 _ hm2
      dsimp only at hk2
      split at hk2
      · rename_i e1 env0 stk f2 i2 env2 hst2 hbx2
        cases hc2 : (isYld e1 b && (Nat.beq f2 f1 && Nat.beq i2 i1)) with
        | false => rw [hc2] at hk2; cases hk2
        | true =>
          rw [hc2, cond_true] at hk2
          simp only [sA] at hc2
          have hf2 := sB hc2.2.1
          have hi2 := sB hc2.2.2
          subst hf2 hi2
          have hstk2 := hs3.stk
          rw [hst2] at hstk2
          have hds2 : ds2 = [] := ziH hm2 hstk2 hc2.1
          subst hds2
          obtain ⟨gb2, r1, r2, r3⟩ := zjC (hstk2.1 0 _ (zfp hc2.1)) rfl
          obtain ⟨gb2', u1, u2⟩ := hs3.bxs.box _ _ hbx2
          rw [r1] at u1
          cases u1
          obtain ⟨u3, u4, l'', tmr2, D2, fnr2, cdr2, u5, u6, u7, u8, u9, u10⟩ := u2
          rw [r3] at u5
          cases u5
          have hlt2 := (Array.getElem?_eq_some_iff.1 u7).1
          obtain ⟨w4, hw4⟩ : ∃ w4, w3.putObj l (.loop { state := .ready, pending := none, fn := fnr2, tmps := tmr2, params := cdr2.ps.toArray, assign := cdr2.assign, body := cdr2.body, defers := D2 }) = w4 := ⟨_, rfl⟩
          obtain ⟨hs4, t4⟩ := hs3.upd r1 r3 u4 u10 (w' := w4) (by rw [← hw4]; rfl) (by rw [← hw4]; rfl) (by rw [← hw4]; rfl) (by rw [← hw4]; simp [World.putObj]) (fun b hb _ => by rw [← hw4]; exact World.putObj_heap_other hb) (.loop false f2 i2 env2)
            ⟨u3, u4, l, tmr2, D2, fnr2, cdr2, r3, u6, by rw [← hw4]; exact World.putObj_heap_same hlt2, u8, u9, u10⟩
          refine ⟨.bool true, w4, ?_, _, _, _, g2, rfl, hk2, rfl, ⟨hstk2.2.1, hstk2.2.2, hs4.bxs, hs4.fz⟩, tt.trans (t3.trans t4)⟩
          rw [← hw4]
          exact run_endRound none u7
      · cases hk2
  · cases hk
def Md.mode:Md→FrameMode
 | .ret=>.returning
 | .pan p=>.panicking [Pan.entry p]
 | .rcv p=>.panicking [{ Pan.entry p with recovered:=true }]
theorem zgT {g:Gh}:∀ {vs:List AV} {cs:List Value},TsR g vs cs→VsR g vs cs
 | [],[],_=>trivial
 | _ :: _,_ :: _,⟨h1,h2⟩=>⟨h1.vr',zgT h2⟩
 | [],_ :: _,h=>h.elim
 | _ :: _,[],h=>h.elim
theorem zo4 {g:Gh} (p:Pan):VR g p.av (.iface p.t p.v.val):=by
 obtain ⟨t,v⟩:=p
 cases v <;> exact ⟨_,rfl,rfl⟩
theorem zgU (hE:EnvOK P E) {F:Fence} (hW:Wide F) {M base n:Nat} {R:Type} {ops:Array Oper} {K:Md→St→Option R} {r:R} {c₀:Frame} {cs:List Frame} {Q:Exit→Act→List Frame→World→Prop} {tms:List (Array Value)} :
  ∀ (rest:List Oper) (k:Nat),ops.toList.drop k = rest→rest.all (dstOk n) = true→∀ {m:Md} {g:Gh} {s:St} {tm:Array Value} {w:World},zdV E base rest m s K = some r→StR g s tm tms w→zay E.C g.fz→tm.size = n →
   (∀ m' s' tm' g' w',K m' s' = some r→StR g' s' tm' tms w'→Tr g w g' w'→tm'.size = n→Q .normal ⟨tm',[]⟩ ({ c₀ with mode:=m'.mode } :: cs) w')→wpOpsSIn F M P ops Q (List.range' k rest.length) ⟨tm,[]⟩ ({ c₀ with mode:=m.mode } :: cs) w
 | [],k,_,_,m,g,s,tm,w,h,hs,_,hn,hQ=>hQ m s tm g w h hs (Tr.refl _ _) hn
 | o :: rest,k,hd,hall,m,g,s,tm,w,h,hs,hG,hn,hQ=>by
  simp only [List.all_cons,sA] at hall
  have hlt:=zcj hall.1
  have hok:ops[k]? = some o:=by
   have:ops.toList[k]? = some o:=by
    have:=congrArg (fun l=>l[0]?) hd
    simpa using this
   rw [← Array.getElem?_toList]; exact this
  have hd':ops.toList.drop (k + 1) = rest:=by
   rw [← List.drop_drop,hd]; rfl
  have go:∀ {m1:Md} {g1:Gh} {s1:St} {w1:World} {v:AV} {z:Value},zdV E base rest m1 { s1 with env:=putE o.dst v s1.env } K = some r→StR g1 s1 tm tms w1→VR g1 v z→Tr g w g1 w1→wpOpsSIn F M P ops Q (List.range' (k + 1) rest.length) (Act.put ⟨tm,[]⟩ o.dst z) ({ c₀ with mode:=m1.mode } :: cs) w1:=by
   intro m1 g1 s1 w1 v z h1 hs1 hv ht1
   rw [put_defers]
   exact zgU hE hW rest (k + 1) hd' hall.2 h1 (hs1.put (fun d hd=>by rw [hn]; exact hlt d hd) hv []) (hG.mono ht1.fz) (by rw [zbM]; exact hn) (fun m' s' tm' g' w' a b c d=>hQ m' s' tm' g' w' a b (ht1.trans c) d)
  simp only [List.length_cons,List.range'_succ,wpOpsSIn,hok]
  simp only [zdV] at h
  refine ⟨fun f _=>hW.fn f,?_⟩
  split at h
  ·cases h
  ·rename_i hg
   have hw:Region.wanted o (yielded ops tm) = true:=by simp [Region.wanted,hg]
   rw [if_pos hw]
   split at h
   ·rename_i args ats hop
    have hr:(execOp (Act.eval ⟨tm,[]⟩) o).run P w = .ok .recover w:=by
     simp only [execOp,hop,resolve,Sem.run_bind,Sem.run_pure,Result.andThen_ok,invoke,builtin]
    rw [hr]
    split at h
    ·rename_i p
     exact go h hs (zo4 p) (Tr.refl _ _)
    ·rename_i hm
     cases m with
     | pan p=>exact absurd rfl (hm p)
     | ret=>exact go h hs rfl (Tr.refl _ _)
     | rcv p=>exact go h hs rfl (Tr.refl _ _)
   ·split at h
    ·rename_i c v e hx
     cases c with
     | false=>simp at h
     | true =>
      simp only [cond_true] at h
      obtain ⟨n',w',g',h1,h2,h3,h4⟩:=zbL hE.cfg hs hG hx []
      rw [h1]
      rcases h2 with ⟨z,rfl,h2⟩ | ⟨rfl,h2⟩
      ·exact go h h3 h2 h4
      ·exact go h h3 h2 h4
    ·cases h
theorem znx (hE:EnvOK P E) {F:Fence} (hW:Wide F) (hround:F.round = none) {M nt:Nat} {d f base n:Nat} (hI:∀ R:Type,InlOK (R:=R) P E (zak E d)) (hnt:nt≤n) {R:Type} {r:R} {c₀:Frame} {cs:List Frame} {tms:List (Array Value)}:∀ (c:Code),za6 n c = true→zaW (E.totOf f) c = true →
  (∀ base,∀ b∈zaz c,∀ l,findL E.L ⟨d,base,f,zas b⟩ = some l→zan E d f base b l)→(∀ x∈zal nt c,Codes.cd f x.1 = some x.2) →
  ∀ {K:Ex→Md→St→Option R} {m:Md} {g:Gh} {s:St} {tm:Array Value} {w:World} {Q:Exit→Act→List Frame→World→Prop},
   runCD E (zak E d) (zak E d) d f base c m s K = some r→StR g s tm tms w→zay E.C g.fz→tm.size = n →
   (∀ e m' s' tm' g' w',K e m' s' = some r→StR g' s' tm' tms w'→Tr g w g' w'→tm'.size = n→Q e.to ⟨tm',[]⟩ ({ c₀ with mode:=m'.mode } :: cs) w')→c.wpSIn F M P Q ⟨tm,[]⟩ ({ c₀ with mode:=m.mode } :: cs) w:=by
 have other:∀ (c:Code),za6 n c = true→zaW (E.totOf f) c = true →
  (∀ base,∀ b∈zaz c,∀ l,findL E.L ⟨d,base,f,zas b⟩ = some l→zan E d f base b l)→(∀ x∈zal nt c,Codes.cd f x.1 = some x.2) →
  ∀ {K:Ex→Md→St→Option R} {m:Md} {g:Gh} {s:St} {tm:Array Value} {w:World} {Q:Exit→Act→List Frame→World→Prop},(bif zaO (E.totOf f) c then runC E (zak E d) (zak E d) d f base c s fun e s'=>bif Nat.beq s'.stk.length s.stk.length then K e m s' else none else none) = some r→StR g s tm tms w→zay E.C g.fz→tm.size = n →
   (∀ e m' s' tm' g' w',K e m' s' = some r→StR g' s' tm' tms w'→Tr g w g' w'→tm'.size = n→Q e.to ⟨tm',[]⟩ ({ c₀ with mode:=m'.mode } :: cs) w')→c.wpSIn F M P Q ⟨tm,[]⟩ ({ c₀ with mode:=m.mode } :: cs) w:=by
  intro c hd hw hl hcd K m g s tm w Q h hs hG hn hQ
  cases hnr:zaO (E.totOf f) c with
  | false=>rw [hnr] at h; cases h
  | true =>
   rw [hnr,cond_true] at h
   refine wpSIn_of_wpIn hround (zhG hE hW (N:=fun _=>False) (ds:=[]) (tms:=tms) hI hnt c hd hw hl (.inl hround) hcd h hs hG hn Mk.nil (.inr hnr) ?_)
   intro e s' tm' g' w' ds' hk hs' ht hn' hm'
   dsimp only at hk
   cases hb:Nat.beq s'.stk.length s.stk.length with
   | false=>rw [hb] at hk; cases hk
   | true =>
    rw [hb,cond_true] at hk
    have hlen:=sB hb
    have h1:=hs'.stk.length
    have h2:=hs.stk.length
    rw [List.length_append] at h1
    have hds:ds' = []:=hm'.none (List.eq_nil_of_length_eq_zero (by omega))
    subst hds
    exact hQ e m s' tm' g' w' hk hs' ht hn'
 intro c
 induction c with
 | seq a b iha ihb =>
  intro hd hw hl hcd K m g s tm w Q h hs hG hn hQ
  simp only [za6,sA] at hd
  simp only [zaW,sA] at hw
  simp only [runCD] at h
  refine wpSIn_seq (iha hd.1 hw.1 (fun bs b' hb'=>hl bs b' (by simp [zaz,hb'])) (fun x hx=>hcd x (by simp [zal,hx])) h hs hG hn ?_)
  intro e m' s' tm' g' w' hk hs' ht hn'
  cases e with
  | normal=>exact ihb hd.2 hw.2 (fun bs b' hb'=>hl bs b' (by simp [zaz,hb'])) (fun x hx=>hcd x (by simp [zal,hx])) hk hs' (hG.mono ht.fz) hn' (fun e m2 s2 tm2 g2 w2 a b c d=>hQ e m2 s2 tm2 g2 w2 a b (ht.trans c) d)
  | exit id=>exact hQ (.exit id) m' s' tm' g' w' hk hs' ht hn'
  | ret=>exact hQ .ret m' s' tm' g' w' hk hs' ht hn'
  | pan p=>exact hQ (.pan p) m' s' tm' g' w' hk hs' ht hn'
 | cond x a b iha ihb =>
  intro hd hw hl hcd K m g s tm w Q h hs hG hn hQ
  simp only [za6,sA] at hd
  simp only [zaW,sA] at hw
  simp only [runCD] at h
  split at h
  ·rename_i t hx
   have hcv:[Act.eval ⟨tm,[]⟩ x] = [Value.bool t]:=ev_ok hs hG hx []
   simp only [sC,and_true] at hcv
   refine wpSIn_cond hcv ?_
   cases t
   ·exact ihb hd.2 hw.2 (fun bs b' hb'=>hl bs b' (by simp [zaz,hb'])) (fun x hx=>hcd x (by simp [zal,hx])) h hs hG hn hQ
   ·exact iha hd.1 hw.1 (fun bs b' hb'=>hl bs b' (by simp [zaz,hb'])) (fun x hx=>hcd x (by simp [zal,hx])) h hs hG hn hQ
  ·cases h
 | region id ops dr =>
  intro hd hw hl hcd K m g s tm w Q h hs hG hn hQ
  simp only [runCD] at h
  cases hb:(zgw ops && !dr) with
  | false=>rw [hb] at h; exact other _ hd hw hl hcd h hs hG hn hQ
  | true =>
   rw [hb,cond_true] at h
   simp only [sA,Bool.not_eq_true'] at hb
   rw [hb.2]
   refine wpSIn_region ?_
   have:=zgU hE hW (M:=M) (n:=n) (Q:=Q) (c₀:=c₀) (cs:=cs) ops.toList 0 rfl hd h hs hG hn (fun m' s' tm' g' w' a b c d=>hQ .normal m' s' tm' g' w' a b c d)
   rw [Array.length_toList] at this
   rw [List.range_eq_range']
   exact this
 | skip=>intro hd hw hl hcd K m g s tm w Q h hs hG hn hQ; simp only [runCD] at h; exact other _ hd hw hl hcd h hs hG hn hQ
 | block id c _=>intro hd hw hl hcd K m g s tm w Q h hs hG hn hQ; simp only [runCD] at h; exact other _ hd hw hl hcd h hs hG hn hQ
 | loop c _=>intro hd hw hl hcd K m g s tm w Q h hs hG hn hQ; simp only [runCD] at h; exact other _ hd hw hl hcd h hs hG hn hQ
 | rangeFunc q ps a b _ _=>intro hd hw hl hcd K m g s tm w Q h hs hG hn hQ; simp only [runCD] at h; exact other _ hd hw hl hcd h hs hG hn hQ
 | exit id=>intro hd hw hl hcd K m g s tm w Q h hs hG hn hQ; simp only [runCD] at h; exact other _ hd hw hl hcd h hs hG hn hQ
 | scope c _=>intro hd hw hl hcd K m g s tm w Q h hs hG hn hQ; simp only [runCD] at h; exact other _ hd hw hl hcd h hs hG hn hQ
 | label l=>intro hd hw hl hcd K m g s tm w Q h hs hG hn hQ; simp only [runCD] at h; exact other _ hd hw hl hcd h hs hG hn hQ
 | goto l=>intro hd hw hl hcd K m g s tm w Q h hs hG hn hQ; simp only [runCD] at h; exact other _ hd hw hl hcd h hs hG hn hQ
 | ret=>intro hd hw hl hcd K m g s tm w Q h hs hG hn hQ; simp only [runCD] at h; exact other _ hd hw hl hcd h hs hG hn hQ
 | refuse l=>intro hd hw hl hcd K m g s tm w Q h hs hG hn hQ; simp only [runCD] at h; exact other _ hd hw hl hcd h hs hG hn hQ
def Fin (P:Program) (fn:Func) (R:Ending→World→Prop) (tm:Array Value) (w:World):Md→Prop
 | .ret=>∃ v,(results fn tm).run P w = .ok v w∧R (.returned v) w
 | .pan p=>R (.panicked [Pan.entry p]) w
 | .rcv _=>True
theorem zf2 (hE:EnvOK P E) {d base:Nat} (hI:∀ R:Type,InlOK (R:=R) P E (zak E d)) {X:Type} {r:X} {K:Md→St→Option X} {fn:Func} {tm:Array Value} {R:Ending→World→Prop} {tms:List (Array Value)} {g0:Gh} {w0:World} (hG0:zay E.C g0.fz)
  (fin:∀ m s g w,K m s = some r→StR g s tm tms w→Tr g0 w0 g w→Fin P fn R tm w m) :
  ∀ (ds:List Deferred) (n:Nat) (m:Md) (s:St) (g:Gh) (w:World),n = (dfs ds).length→zcF E (zak E d) (zak E d) d base K n m s = some r→(∀ p,m ≠ .rcv p)→StR g s tm (dfs ds++tms) w→Tr g0 w0 g w→Mk (fun r=>w0.heap.size≤r) g w ds→LeavesInM Fence.wide 0 P fn tm R ds m.mode w
 | [],n,m,s,g,w,hn,h,hm,hs,ht,_=>by
  subst hn
  have:=fin m s g w h hs ht
  cases m with
  | ret=>exact this
  | pan p=>exact this
  | rcv p=>exact absurd rfl (hm p)
 | d1 :: ds,n,m,s,g,w,hn,h,hm,hs,ht,hk=>by
  have hmode:m.mode ≠ .run:=by cases m <;> exact fun h=>nomatch h
  have ap:=List.pairwise_cons.1 hk.apart
  rcases hk.mem d1 (by simp) with ⟨r1,rfl,e2,e3,e4⟩ | ⟨f,cap,args,rfl⟩
  ·refine ⟨hmode,.inl ⟨r1,_,rfl,run_takeDeferred e3,?_⟩⟩
   refine zf2 hE hI hG0 fin ds n m s g _ hn h hm (hs.putOther e3 e4 _) (ht.putOther e2 _) ⟨fun d' hd'=>?_,ap.2⟩
   rcases hk.mem d' (by simp [hd']) with ⟨r',rfl,k2,k3,k4⟩ | h'
   ·have hne:r' ≠ r1:=fun e=>ap.1 _ hd' r1 rfl (by rw [e])
    exact .inl ⟨r',rfl,k2,(World.putObj_heap_other hne).trans k3,k4⟩
   ·exact .inr h'
  ·have hdf:dfs ({ target:=.fn (.func f) cap,args:=args } :: ds) = #[.tuple (#[.func (.func f) #[] cap]++args)] :: dfs ds:=rfl
   rw [hdf] at hn hs
   subst hn
   simp only [List.length_cons,zcF] at h
   split at h
   ·rename_i dfr stk hst
    have hstk:=hs.stk
    rw [hst] at hstk
    split at h
    ·rename_i f' caps vs hfd
     have hv:=hstk.1 0 _ hfd
     obtain ⟨arr,ha1,ha2⟩:=hv
     have harr:arr = #[.func (.func f) #[] cap]++args:=by
      have:(#[Value.tuple (#[.func (.func f) #[] cap]++args)]:Array Value).getD 0 undef = .tuple (#[.func (.func f) #[] cap]++args):=rfl
      rw [this] at ha1
      exact (Value.tuple.inj ha1).symm
     subst harr
     simp only [Array.toList_append,List.cons_append,List.nil_append] at ha2
     obtain ⟨⟨cv,hcv,hcaps⟩,hvs⟩:=ha2
     simp only [sC,and_true,Value.func.injEq,Fn.func.injEq,true_and] at hcv
     obtain ⟨rfl,rfl⟩:=hcv
     split at h
     ·rename_i fd hfd
      split at h
      ·rename_i cd hcd
       have hen:=zks hE hfd
       obtain ⟨hfn,hfo⟩:=hE.func f fd hfd
       have hd:=zev hfo hcd
       refine ⟨hmode,.inr ⟨(fun h=>nomatch h),.func f,cap,f,args++cap,rfl,zca hen _ _,(fun _ _=>trivial),?_⟩⟩
       refine callsDIn_of_wpSIn hfn hcd trivial ?_
       intro c₀ cs hc₀
       have hc:({ c₀ with mode:=m.mode }:Frame) = c₀:=by rw [← hc₀]
       have hall:VsR g (vs++caps) (args++cap).toList:=by
        rw [Array.toList_append]
        exact (zgT hvs).append hcaps.vsR
       have hs0:StR g { env:=params 0 (vs++caps),stk:=s.env :: stk,bxs:=s.bxs } ((args++cap)++Array.replicate (fd.ntmps - (args++cap).size) undef) (tm :: (dfs ds++tms)) w:=⟨zc9 hall _,⟨hs.env,hstk.2⟩,hs.bxs,hs.fz⟩
       have main:=znx hE .base rfl (M:=0 - 1) (nt:=fd.ntmps) (n:=((args++cap)++Array.replicate (fd.ntmps - (args++cap).size) undef).size) hI (by simp; omega) (c₀:=c₀) (cs:=cs) cd (zc8 (by simp; omega) hd.1) hd.2.1 (fun bs b hb' l hl=>hE.loop d _ f fd cd b l hfd hcd hb' hl) (zhH hE hfd hcd) (Q:=bodyPostS P fd c₀ cs fun
        | .returned _,u',w'=>LeavesInM Fence.wide 0 P fn tm R ds (settle u') w'
        | .panicked chain,u',w'=>LeavesInM Fence.wide 0 P fn tm R ds (raised u' chain) w'
        | .outgrown,_,w'=>R .outgrown w') h hs0 (hG0.mono ht.fz) rfl ?_
       ·rw [hc] at main
        exact main
       ·intro e m' s' tm' g' w' hk' hs' ht' _
        have go:∀ env stk',s'.stk = env :: stk'→∀ m2:Md,(∀ p,m2 ≠ .rcv p)→zcF E (zak E d) (zak E d) d base K (dfs ds).length m2 { env:=env,stk:=stk',bxs:=s'.bxs } = some r→LeavesInM Fence.wide 0 P fn tm R ds m2.mode w':=by
         intro env stk' hst' m2 hm2 hk2
         have hstk':=hs'.stk
         rw [hst'] at hstk'
         exact zf2 hE hI hG0 fin ds _ m2 _ g' w' rfl hk2 hm2 ⟨hstk'.1,hstk'.2,hs'.bxs,hs'.fz⟩ (ht.trans ht') ((⟨fun d hd=>hk.mem d (by simp [hd]),ap.2⟩:Mk _ g w ds).tr ht')
        have ret:∀ env stk',s'.stk = env :: stk'→(match resOf E.C s' fd.results.toList with
          | some _=>zcF E (zak E d) (zak E d) d base K (dfs ds).length (match (generalizing:=false) m' with | .rcv _=>.ret | m=>m) { env:=env,stk:=stk',bxs:=s'.bxs }
          | none=>none) = some r→∃ u',({ c₀ with mode:=m'.mode }:Frame) :: cs = { c₀ with mode:=u' } :: cs∧∃ v,(results fd tm').run P w' = .ok v w'∧LeavesInM Fence.wide 0 P fn tm R ds (settle u') w':=by
         intro env stk' hst' hk2
         split at hk2
         ·rename_i us hus
          obtain ⟨cs',q1,q2,q3⟩:=zbU hE.cfg hs' hus
          refine ⟨m'.mode,rfl,_,zcu q1,?_⟩
          cases m' with
          | ret=>exact go env stk' hst' .ret (fun _ h=>nomatch h) hk2
          | pan p=>exact go env stk' hst' (.pan p) (fun _ h=>nomatch h) hk2
          | rcv p=>exact go env stk' hst' .ret (fun _ h=>nomatch h) hk2
         ·cases hk2
        cases e with
        | exit i=>simp at hk'
        | pan p =>
         refine ⟨rfl,m'.mode,rfl,?_⟩
         cases hst':s'.stk with
         | nil=>rw [hst'] at hk'; cases m' <;> cases hk'
         | cons env stk' =>
          rw [hst'] at hk'
          cases m' with
          | ret=>exact go env stk' hst' (.pan p) (fun _ h=>nomatch h) hk'
          | pan q=>cases hk'
          | rcv q=>cases hk'
        | normal =>
         cases hst':s'.stk with
         | nil=>rw [hst'] at hk'; cases hk'
         | cons env stk' =>
          rw [hst'] at hk'
          exact ⟨rfl,ret env stk' hst' hk'⟩
        | ret =>
         cases hst':s'.stk with
         | nil=>rw [hst'] at hk'; cases hk'
         | cons env stk' =>
          rw [hst'] at hk'
          exact ⟨rfl,ret env stk' hst' hk'⟩
      ·cases h
     ·cases h
    ·cases h
   ·cases h
theorem zhI (hE:EnvOK P E) {d base base':Nat} (hI:∀ R:Type,InlOK (R:=R) P E (zak E d)) {f:Nat} {fn:Func} {c:Code} (hf:find E.F f = some fn) (hb:fn.body = some c) {g:Gh} {s0:St} {vals:Array Value} {tms:List (Array Value)} {w:World}
  (hs0:StR g s0 (vals++Array.replicate (fn.ntmps - vals.size) undef) tms w) (hG:zay E.C g.fz) {X:Type} {K:St→Md→St→Option X} {r:X} {L:Nat} (hL:L = tms.length)
  (h:runC E (zak E d) (zak E d) d f base c s0 (fun e s=>match mdOf e with | none=>none | some m=>zcF E (zak E d) (zak E d) d base' (K s) (s.stk.length - L) m s) = some r) {R:Ending→World→Prop}
  (fin:∀ s1 m s tm' g' w',K s1 m s = some r→StR g' s tm' tms w'→Tr g w g' w'→Fin P fn R tm' w' m):Calls P f vals w R:=by
 obtain ⟨hfn,hfo⟩:=hE.func f fn hf
 have hd:=zev hfo hb
 refine callsIn_wide.1 (callsIn_of_wp_marks (n:=0) hfn hb trivial ?_)
 refine zhG hE .base (N:=fun r=>w.heap.size≤r) (ds:=[]) (tms:=tms) (nt:=fn.ntmps) (n:=(vals++Array.replicate (fn.ntmps - vals.size) undef).size) hI (by simp; omega) c (zc8 (by simp; omega) hd.1) hd.2.1 (fun bs b hb' l hl=>hE.loop d _ f fn c b l hf hb hb' hl) (.inl rfl) (zhH hE hf hb) h hs0 hG rfl Mk.nil (.inl fun _ h=>h) ?_
 intro e s' tm' g' w' ds' hk hs' ht _ hm'
 dsimp only at hk
 have hlen:=hs'.stk.length
 rw [List.length_append] at hlen
 have go:∀ m:Md,(∀ p,m ≠ .rcv p)→zcF E (zak E d) (zak E d) d base' (K s') (s'.stk.length - L) m s' = some r→LeavesInM Fence.wide 0 P fn tm' R ds' m.mode w':=by
  intro m hm hk
  exact zf2 hE hI hG (fun m s g2 w2 a b c=>fin s' m s tm' g2 w2 a b c) ds' _ m s' g' w' (by omega) hk hm hs' ht hm'
 cases e with
 | normal=>exact go .ret (fun _ h=>nomatch h) hk
 | ret=>exact go .ret (fun _ h=>nomatch h) hk
 | pan p=>exact go (.pan p) (fun _ h=>nomatch h) hk
 | exit i=>cases hk
theorem zcN (hE:EnvOK P E):∀ (d:Nat) (R:Type),InlOK (R:=R) P E (zak E d)
 | 0,R=>⟨fun base f args s K KP r h=>by simp [zak] at h,fun base b args s K KP r h=>by simp [zak] at h⟩
 | d + 1,R=>by
  refine ⟨fun base f args s K KP r h=>?_,fun base b args s K KP r h=>?_⟩
  ·simp only [zak] at h
   split at h
   ·rename_i fn hf
    split at h
    ·rename_i c hb
     refine ⟨zks hE hf,fun g tm tms w vals hs hG hv=>?_⟩
     have hs0:StR g { env:=params 0 args,stk:=s.env :: s.stk,bxs:=s.bxs } (vals++Array.replicate (fn.ntmps - vals.size) undef) (tm :: tms) w:=⟨zc9 hv _,⟨hs.env,hs.stk⟩,hs.bxs,hs.fz⟩
     refine zhI hE (zcN hE d) hf hb hs0 hG (K:=fun _ m s'=>match m,s'.stk with
      | .pan p,env :: stk=>KP p { env:=env,stk:=stk,bxs:=s'.bxs }
      | .ret,env :: stk=>match resOf E.C s' fn.results.toList with
       | some vs=>K (tup1 vs) { env:=env,stk:=stk,bxs:=s'.bxs }
       | none=>none
      | _,_=>none) (L:=s.stk.length + 1) (by rw [List.length_cons,hs.stk.length]) h ?_
     intro s1 m s' tm' g' w' hk hs' ht
     have hstk:=hs'.stk
     cases hst:s'.stk with
     | nil=>rw [hst] at hk; cases m <;> cases hk
     | cons env stk =>
      rw [hst] at hk hstk
      cases m with
      | rcv p=>trivial
      | pan p=>exact .inr ⟨p,_,g',rfl,hk,⟨hstk.1,hstk.2,hs'.bxs,hs'.fz⟩,ht⟩
      | ret =>
       simp only at hk
       split at hk
       ·rename_i vs hvs
        obtain ⟨cs,h1,h2,h3⟩:=zbU hE.cfg hs' hvs
        exact ⟨_,zcu h1,.inl ⟨_,_,_,g',rfl,hk,zmf h2 h3,⟨hstk.1,hstk.2,hs'.bxs,hs'.fz⟩,ht⟩⟩
       ·cases hk
    ·cases h
   ·cases h
  ·intro g tm tms w vals gb l hs hG hv hgb hl
   simp only [zak] at h
   split at h
   ·rename_i f id env hbx
    split at h
    ·rename_i fn hf
     split at h
     ·rename_i c hb
      split at h
      ·rename_i cd hcd
       cases hchk:(Nat.beq cd.ps.length args.length && (zaO (E.totOf f) cd.assign && zaO (E.totOf f) cd.body)) with
       | false=>rw [hchk] at h; cases h
       | true =>
        rw [hchk,cond_true] at h
        simp only [sA] at hchk
        obtain ⟨gb',p1,p2⟩:=hs.bxs.box _ _ hbx
        rw [hgb] at p1
        cases p1
        obtain ⟨p3,p4,l',tmr,D,fnr,cdr,p5,p6,p7,p8,p9,p10⟩:=p2
        rw [hl] at p5
        cases p5
        have hmem:=zkq hcd
        have hcdr:cdr = cd:=by
         have:=zhH hE hf hb _ hmem
         simp only at this
         rw [p6] at this
         exact Option.some.inj this
        subst hcdr
        have hnt:=zk4 hmem
        simp only at hnt
        rw [hnt] at p9
        have hlen:=sB hchk.1
        have hps:=(zeu (zev (hE.func f fn hf).2 hb).1 hmem).1
        obtain ⟨e1,e2⟩:=zmo (g:=g) (ps:=cdr.ps) (args:=args) (vals:=vals.toList) hv (show EnvR g env tmr from p8) hlen (fun p hp=>Nat.lt_of_lt_of_le (hps p hp) p9)
        have hvl:vals.size = cdr.ps.length:=by
         rw [hlen]
         have:∀ {l:List AV} {cs:List Value},VsR g l cs→l.length = cs.length:=by
          intro l
          induction l with
          | nil=>intro cs h; cases cs with | nil=>rfl | cons c cs=>exact h.elim
          | cons a l ih=>intro cs h; cases cs with | nil=>exact h.elim | cons c cs=>simp [ih h.2]
         rw [← Array.length_toList]
         exact (this hv).symm
        refine ⟨fnr,_,cdr.assign,cdr.body,run_yield p7 (by simpa using hvl),fun F n hW=>?_⟩
        simp only
        rw [zmp]
        exact znw hE (zcN hE d) hf hb hmem hchk.2.1 hchk.2.2 h e1 (by rw [e2]; exact p9) hs hG ⟨gb,l,hgb,p3,hl,rfl⟩ hW fnr
      ·cases h
     ·cases h
    ·cases h
   ·cases h
theorem zmr {R:Type} {bx:Bxs}:∀ {l:List Ty} {vs:List AV} {K:tysDen l→Option R},resK bx l vs K = argsK (zhX bx) l vs K
 | [],[],K=>rfl
 | [],_ :: _,K=>rfl
 | _ :: _,[],K=>rfl
 | T :: l,v :: vs,K=>by
  simp only [resK,argsK]
  split
  ·exact zmr
  ·rfl
noncomputable def runV (E:Env0) (f:Nat) (fn:Func) (c:Code) (vs:List AV) (res:List Ty):Option (tysDen res) :=
 runC E (zak E depth) (zak E depth) depth f 0 c { env:=params 0 vs,stk:=[],bxs:=[] } fun e s =>
  match mdOf e with
  | none=>none
  | some m=>zcF E (zak E depth) (zak E depth) depth 0 (fun m s=>match m with
   | .ret=>match resOf E.C s fn.results.toList with
    | some vs=>resK s.bxs res vs some
    | none=>none
   | _=>none) s.stk.length m s
theorem zew (hE:EnvOK P E) {f:Nat} {fn:Func} {c:Code} (hf:find E.F f = some fn) (hb:fn.body = some c) {res:List Ty} {fz:Nat→Nat→Option Value} {w:World} {args:Array Value} {vs:List AV} {y:tysDen res}
  (hG:zay E.C fz) (hF:FzOK (.of fz) w) (ha:VsR (.of fz) vs args.toList) (h:runV E f fn c vs res = some y) :
  Calls P f args w fun e w'=>∃ cs fz',e = .returned (zdn cs)∧TVs fz' res y cs∧FzOK (.of fz') w'∧Tr (.of fz) w (.of fz') w':=by
 unfold runV at h
 have hs0:StR (.of fz) { env:=params 0 vs,stk:=[],bxs:=[] } (args++Array.replicate (fn.ntmps - args.size) undef) [] w:=⟨zc9 ha _,trivial,zmc,hF⟩
 refine zhI hE (zcN hE depth) hf hb hs0 hG (K:=fun _ m s=>match m with
   | .ret=>match resOf E.C s fn.results.toList with
    | some vs=>resK s.bxs res vs some
    | none=>none
   | _=>none) (L:=0) rfl h ?_
 intro s1 m s' tm' g' w' hk hs' ht
 cases m with
 | rcv p=>trivial
 | pan p=>cases hk
 | ret =>
  simp only at hk
  split at hk
  ·rename_i vs hvs
   obtain ⟨cs,h1,h2,h3⟩:=zbU hE.cfg hs' hvs
   rw [zmr] at hk
   obtain ⟨fz1,h4,t4⟩:=StR.frzKeys s'.bxs hs'
   have hx:ExtBut none g' ⟨fz1,g'.bx⟩:=⟨t4.fz,fun _ _ _ h=>h,fun _ _ h _=>nomatch h⟩
   have hvm:∀ {l:List AV} {cs:List Value},VsR g' l cs→VsR ⟨fz1,g'.bx⟩ l cs:=by
    intro l
    induction l with
    | nil=>intro cs h; cases cs <;> exact h
    | cons v l ih =>
     intro cs h
     cases cs with
     | nil=>exact h.elim
     | cons c cs=>exact ⟨h.1.grow hx,ih h.2⟩
   obtain ⟨y',h5,h6⟩:=zc3 h4.bxs.w h4.fz hk (hvm h2)
   cases h5
   have t5:=ht.trans t4
   exact ⟨_,zcu h1,cs,fz1,rfl,h6,h4.fz,⟨t5.os,t5.tape,t5.output,t5.size,t5.fz,t5.fzNew,fun b h=>(not_owned _ _ h).elim,t5.block⟩⟩
  ·cases hk
theorem zaX (hE:EnvOK P E) {f:Nat} {fn:Func} {c:Code} (hf:find E.F f = some fn) (hb:fn.body = some c) (p:PSpec) (hp:∀ x y,p.fn x = some y→runF E f fn c p.args p.res x = some y):zbh P E.C f p:=by
 intro fz w args x y hG hF ha hx
 exact zew hE hf hb hG hF (TVs.vsR (g:=.of fz) ha) (hp x y hx)
theorem zny (hE:EnvOK P E) {f:Nat} {fn:Func} {c:Code} (hf:find E.F f = some fn) (hb:fn.body = some c) (T:Ty) (args res:List Ty) (F:tysDen (.sl T :: args)→Option (tysDen res))
  (h1:∀ x y,F ([],x) = some y→runV E f fn c (.nils :: tysAV args x) res = some y) (h2:∀ l x y,F (l,x) = some y→runV E f fn c (.nn T l :: tysAV args x) res = some y) :
  zbh P E.C f { args:=.sl T :: args,res:=res,fn:=F }:=by
 intro fz w vals x y hG hF ha hx
 obtain ⟨l,x⟩:=x
 have hx':F (l,x) = some y:=hx
 have ha':TVs fz (.sl T :: args) (l,x) vals.toList:=ha
 generalize hv:vals.toList = vl at ha'
 cases vl with
 | nil=>exact ha'.elim
 | cons v vl =>
  obtain ⟨⟨arr,⟨v',e1,e2⟩,e3⟩,hr⟩:=ha'
  have e4:v = v':=by
   rw [e3]
   show arr.getD 0 undef = v'
   rw [Array.getD_eq_getD_getElem?,← Array.getElem?_toList,e1]
   rfl
  subst e4
  rcases e2 with ⟨e5,a,e6⟩ | ⟨blk,off,cap,cs,e5,q1,q2,q3⟩
  ·have e5':l = []:=e5
   subst e5'
   cases a with
   | none =>
    refine zew hE hf hb hG hF ?_ (h1 x y hx')
    rw [hv]
    exact ⟨by rw [e6]; rfl,TVs.vsR (g:=.of fz) hr⟩
   | some a =>
    refine zew hE hf hb hG hF ?_ (h2 [] x y hx')
    rw [hv]
    exact ⟨.inl ⟨rfl,a,by rw [e6]⟩,TVs.vsR (g:=.of fz) hr⟩
  ·refine zew hE hf hb hG hF ?_ (h2 l x y hx')
   rw [hv]
   exact ⟨.inr ⟨blk,off,cap,cs,by rw [e5],q1,q2,q3⟩,TVs.vsR (g:=.of fz) hr⟩
theorem zms {g:Gh} {s:St} {tm:Array Value} {tms:List (Array Value)} {w:World} (hs:StR g s tm tms w) {K V:Ty} {v:AV} {l:List (K.den × V.den)} (h:zjU s.bxs K V v = some l) {c:Value} (hv:VR g v c) :
  ∃ gb r,c = .map (some r)∧gb.isRow = false∧gb.blk = some r∧BoxR g (.map K V l) gb w∧owned g r:=by
 unfold zjU at h
 split at h
 ·rename_i b
  split at h
  ·rename_i K' V' l' hb
   split at h
   ·rename_i hK
    subst hK
    split at h
    ·rename_i hV
     subst hV
     simp only [sI] at h
     subst h
     obtain ⟨gb,r,e1,e2,e3,e4⟩:=(show ∃ gb r,g.bx b = some gb∧gb.isRow = false∧gb.blk = some r∧c = .map (some r) from by
      obtain ⟨gb,r,e1,e2,e3,e4⟩:=(show GR g (.mp b) [c] from hv)
      simp only [sC,and_true] at e4
      exact ⟨gb,r,e1,e2,e3,e4⟩)
     obtain ⟨gb',q1,q2⟩:=hs.bxs.box _ _ hb
     rw [e1] at q1
     cases q1
     exact ⟨gb,r,e4,e2,e3,q2,⟨b,gb,e1,e3,q2.2.1⟩⟩
    ·cases h
   ·cases h
  ·cases h
 ·cases h
theorem zk5 (hE:EnvOK P E) {f:Nat} {fn:Func} {c:Code} (hf:find E.F f = some fn) (hb:fn.body = some c) (p:MSpec) (hp:∀ x y,p.fn x = some y→runM E f fn c (tysAV p.args x++[.fn p.arg []]) p.K p.V = some y):MapOK P E.C f p:=by
 intro fz w args cs x y hG hF hargs ha hx
 have h:=hp x y hx
 unfold runM at h
 have ha':VsR (.of fz) (tysAV p.args x++[.fn p.arg []]) args.toList:=by
  rw [hargs]
  exact (TVs.vsR (g:=.of fz) ha).append ⟨⟨#[],rfl,trivial⟩,trivial⟩
 have hs0:StR (.of fz) { env:=params 0 (tysAV p.args x++[.fn p.arg []]),stk:=[],bxs:=[] } (args++Array.replicate (fn.ntmps - args.size) undef) [] w:=⟨zc9 ha' _,trivial,zmc,hF⟩
 refine zhI hE (zcN hE depth) hf hb hs0 hG (K:=fun _ m s=>match m with
   | .ret=>match resOf E.C s fn.results.toList with
    | some [v]=>zjU s.bxs p.K p.V v
    | _=>none
   | _=>none) (L:=0) rfl h ?_
 intro s1 m s' tm' g' w' hk hs' ht
 cases m with
 | rcv p=>trivial
 | pan p=>cases hk
 | ret =>
  simp only at hk
  split at hk
  ·rename_i v hvs
   obtain ⟨cs,h1,h2,h3⟩:=zbU hE.cfg hs' hvs
   match cs,h2 with
   | [c],h2 =>
    obtain ⟨gb,r,k0,k1,k2,k3,k4⟩:=zms hs' hk h2.1
    subst k0
    exact ⟨_,zcu h1,r,g'.fz,gb,rfl,k1,k2,k3,(ht.own r k4).resolve_left (not_owned _ _),hs'.fz,⟨ht.os,ht.tape,ht.output,ht.size,ht.fz,ht.fzNew,fun b h=>(not_owned _ _ h).elim,ht.block⟩⟩
   | [],h2=>exact h2.elim
   | _ :: _ :: _,h2=>exact h2.2.elim
  ·cases hk
theorem zhJ {R:Type} {g:Gh} {bxs:Bxs} {w:World} (hb:BxW g bxs w) (hf:FzOK g w) {ks:List Nat}:∀ {l:List Sh} {vs:List AV} {K:shDen l→Option R} {r:R} {cs:List Value},l.all (fun x=>x.ok ks && (match x with | .cst v=>v.okGs | .ty _=>true | .dyn _=>true)) = true→decV bxs l vs K = some r→VsR g vs cs →
  ∃ x,K x = some r∧VsR (g.keep ks) (encV l x) cs
 | [],[],K,r,[],_,h,_=>⟨(),h,trivial⟩
 | [],[],_,_,_ :: _,_,_,h=>h.elim
 | .ty T :: l,v :: vs,K,r,c :: cs,hk,h,⟨h1,h2⟩=>by
  simp only [List.all_cons,sA] at hk
  simp only [decV] at h
  split at h
  ·rename_i x hx
   obtain ⟨y,h3,h4⟩:=zhJ hb hf hk.2 h h2
   exact ⟨(x,y),h3,(TV.vr (g:=g.keep ks) (zd0 hb hf hx h1)).vr',h4⟩
  ·cases h
 | .cst u :: l,v :: vs,K,r,c :: cs,hk,h,⟨h1,h2⟩=>by
  simp only [List.all_cons,sA] at hk
  simp only [decV] at h
  cases hs:v.same u
  ·rw [hs] at h; cases h
  ·rw [hs] at h
   simp only [cond_true] at h
   have:=same_eq hs
   subst this
   obtain ⟨y,h3,h4⟩:=zhJ hb hf hk.2 h h2
   exact ⟨y,h3,zhy hk.1.1 h1,h4⟩
 | _ :: _,_ :: _,_,_,[],_,_,h=>h.elim
 | [],_ :: _,_,_,_,_,h,_=>by simp [decV] at h
 | .ty _ :: _,[],_,_,_,_,h,_=>by simp [decV] at h
 | .cst _ :: _,[],_,_,_,_,h,_=>by simp [decV] at h
 | .dyn k :: l,v :: vs,K,r,c :: cs,hk,h,⟨h1,h2⟩=>by
  simp only [List.all_cons,sA] at hk
  simp only [decV] at h
  split at h
  ·rename_i x hx
   obtain ⟨y,h3,h4⟩:=zhJ hb hf hk.2 h h2
   exact ⟨(x,y),h3,zhy (zeq hk.1.1 x) ((zmb hb hx).2.1 _ h1),h4⟩
  ·cases h
 | .dyn _ :: _,[],_,_,_,_,h,_=>by simp [decV] at h
theorem zbV {g:Gh} {w:World}:∀ (l:List (Nat × BSh)) (n:Nat),(∀ k sh,(k,BSh.var sh)∈l→∃ gb blk,g.bx k = some gb∧gb.isRow = false∧gb.blk = some blk) →
  ∃ tm:Nat→Value,∀ m v,find (zaS n l) m = some v→n≤m∧VR g v (tm m)
 | [],n,_=>⟨fun _=>undef,fun _ _ h=>nomatch h⟩
 | (k,.row _ _) :: l,n,h=>by
  obtain ⟨tm,h1⟩:=zbV (g:=g) (w:=w) l n (fun k sh hm=>h k sh (by simp [hm]))
  exact ⟨tm,h1⟩
 | (k,.loop _ _ _ _) :: l,n,h=>by
  obtain ⟨tm,h1⟩:=zbV (g:=g) (w:=w) l n (fun k sh hm=>h k sh (by simp [hm]))
  exact ⟨tm,h1⟩
 | (k,.map _ _) :: l,n,h=>by
  obtain ⟨tm,h1⟩:=zbV (g:=g) (w:=w) l n (fun k sh hm=>h k sh (by simp [hm]))
  exact ⟨tm,h1⟩
 | (k,.fmap _ _) :: l,n,h=>by
  obtain ⟨tm,h1⟩:=zbV (g:=g) (w:=w) l n (fun k sh hm=>h k sh (by simp [hm]))
  exact ⟨tm,h1⟩
 | (k,.iter _ _) :: l,n,h=>by
  obtain ⟨tm,h1⟩:=zbV (g:=g) (w:=w) l n (fun k sh hm=>h k sh (by simp [hm]))
  exact ⟨tm,h1⟩
 | (k,.var sh) :: l,n,h=>by
  obtain ⟨tm,h1⟩:=zbV (g:=g) (w:=w) l (n + 1) (fun k sh hm=>h k sh (by simp [hm]))
  obtain ⟨gb,blk,e1,e2,e3⟩:=h k sh (by simp)
  refine ⟨fun m=>if m = n then .pointer (some ⟨blk,0,none⟩) else tm m,fun m v e=>?_⟩
  by_cases hm:n = m
  ·subst hm
   simp only [zaS,zad,sI] at e
   subst e
   exact ⟨Nat.le_refl _,gb,blk,e1,e2,e3,(fun _ h=>nomatch h),by simp [zam]⟩
  ·simp only [zaS,zab _ _ hm] at e
   obtain ⟨h2,h3⟩:=h1 m v e
   refine ⟨by omega,?_⟩
   simp only
   rw [if_neg (Ne.symm hm)]
   exact h3
theorem zbW:∀ (l:List (Nat × BSh)) (n m:Nat) (v:AV),find (zaS n l) m = some v→m < n + l.length
 | (k,.row _ _) :: l,n,m,v,h=>by
  have:=zbW l n m v h
  simp only [List.length_cons]; omega
 | (k,.loop _ _ _ _) :: l,n,m,v,h=>by
  have:=zbW l n m v h
  simp only [List.length_cons]; omega
 | (k,.map _ _) :: l,n,m,v,h=>by
  have:=zbW l n m v h
  simp only [List.length_cons]; omega
 | (k,.fmap _ _) :: l,n,m,v,h=>by
  have:=zbW l n m v h
  simp only [List.length_cons]; omega
 | (k,.iter _ _) :: l,n,m,v,h=>by
  have:=zbW l n m v h
  simp only [List.length_cons]; omega
 | (k,.var sh) :: l,n,m,v,h=>by
  by_cases hm:n = m
  ·simp only [List.length_cons]; omega
  ·simp only [zaS,zab _ _ hm] at h
   have:=zbW l (n + 1) m v h
   simp only [List.length_cons]; omega
theorem zbD:∀ {l:List (Nat × BSh)} {n:Nat} {k:Nat} {sh:List Sh},(k,BSh.var sh)∈l→∃ m,(m,AV.ptr k 0 [])∈zaS n l
 | (j,.row _ _) :: l,n,k,sh,h=>by
  rcases List.mem_cons.1 h with h | h
  ·cases h
  ·exact zbD (l:=l) h
 | (j,.loop _ _ _ _) :: l,n,k,sh,h=>by
  rcases List.mem_cons.1 h with h | h
  ·cases h
  ·exact zbD (l:=l) h
 | (j,.map _ _) :: l,n,k,sh,h=>by
  rcases List.mem_cons.1 h with h | h
  ·cases h
  ·exact zbD (l:=l) h
 | (j,.fmap _ _) :: l,n,k,sh,h=>by
  rcases List.mem_cons.1 h with h | h
  ·cases h
  ·exact zbD (l:=l) h
 | (j,.iter _ _) :: l,n,k,sh,h=>by
  rcases List.mem_cons.1 h with h | h
  ·cases h
  ·exact zbD (l:=l) h
 | (j,.var gs) :: l,n,k,sh,h=>by
  rcases List.mem_cons.1 h with h | h
  ·cases h; exact ⟨n,by simp [zaS]⟩
  ·obtain ⟨m,hm⟩:=zbD (l:=l) (n:=n + 1) h
   exact ⟨m,by simp [zaS,hm]⟩
theorem zgV {env:Env}:∀ {l:Env},zgx env l = true→∀ n v,(n,v)∈l→find env n = some v
 | (m,u) :: l,h,n,v,hm=>by
  simp only [zgx,sA] at h
  rcases List.mem_cons.1 hm with e | hm
  ·cases e
   have h1:=h.1
   split at h1
   ·rename_i x hx
    rw [hx,same_eq h1]
   ·cases h1
  ·exact zgV h.2 n v hm
theorem zjE {l:List (Nat × BSh)} (hl:∀ k sh,(k,sh)∈l→sh.odd = false) {x:bxsDen l} {k:Nat} {gs:List AV} (h:find (zar l x) k = some (.var gs)):∃ sh,(k,BSh.var sh)∈l:=by
 rcases zbc h with ⟨_,_,_,e,_⟩ | ⟨sh,_,_,m⟩ | ⟨sh,m,e⟩
 ·cases e
 ·exact ⟨sh,m⟩
 ·rw [hl _ _ m] at e; cases e
theorem zjF (hE:EnvOK P E) {f:Nat} {fn:Func} {c:Code} (hf:find E.F f = some fn) (hb:fn.body = some c) (p:CSpec) (hok:p.ok = true) (hp:∀ x y,p.fn x = some y→runS E f fn c p x = some y):zgM P E.C f p:=by
 intro g w vals xa xb y hG hs hy
 have h:=hp _ _ hy
 simp only [CSpec.ok,sA] at hok
 obtain ⟨⟨⟨⟨⟨a1,a2⟩,a3⟩,a4⟩,a5⟩,a6⟩:=hok
 obtain ⟨hkeys,hrows⟩:=zc6 a5
 unfold runS at h
 have hvars:∀ k sh,(k,BSh.var sh)∈p.ins→∃ gb blk,g.bx k = some gb∧gb.isRow = false∧gb.blk = some blk:=by
  intro k sh hm
  have hsome:=zaQ (l:=p.ins) (x:=xb) (k:=k) (List.mem_map.2 ⟨_,hm,rfl⟩)
  obtain ⟨b,hbk⟩:=Option.isSome_iff_exists.1 hsome
  obtain ⟨gb,e1,e2⟩:=hs.bxs.box k b hbk
  have hnr:k ∉ zaq p.ins:=by
   intro hr
   have:∀ {l:List (Nat × BSh)},idsOk (l.map (·.1)) = true→(k,BSh.var sh)∈l→k ∉ zaq l:=by
    intro l
    induction l with
    | nil=>intro _ h; cases h
    | cons x l ih =>
     intro hi hm hr
     obtain ⟨j,d⟩:=x
     simp only [List.map_cons,idsOk,sA,Bool.not_eq_true'] at hi
     rcases List.mem_cons.1 hm with e | hm2
     ·cases e
      simp only [zaq] at hr
      rw [List.contains_iff_mem.2 (zaL hr)] at hi
      cases hi.1
     ·cases d with
      | row T fz =>
       simp only [zaq,List.mem_cons] at hr
       rcases hr with rfl | hr
       ·have hc:(l.map (·.1)).contains k = true:=List.contains_iff_mem.2 (List.mem_map.2 ⟨(k,BSh.var sh),hm2,rfl⟩)
        rw [hc] at hi
        cases hi.1
       ·exact ih hi.2 hm2 hr
      | var gs =>
       simp only [zaq] at hr
       exact ih hi.2 hm2 hr
      | loop u f i e =>
       simp only [zaq] at hr
       exact ih hi.2 hm2 hr
      | map S V =>
       simp only [zaq] at hr
       exact ih hi.2 hm2 hr
      | fmap S V =>
       simp only [zaq] at hr
       exact ih hi.2 hm2 hr
      | iter S V =>
       simp only [zaq] at hr
       exact ih hi.2 hm2 hr
   exact this a6 hm hr
  rcases zbc hbk with ⟨T,fz,l,_,m⟩ | ⟨sh',l,rfl,_⟩ | ⟨sh',m,modd⟩
  rotate_left 2
  ·exact absurd modd (by rw [(zaH a5).1 _ _ m]; decide)
  ·exact absurd m hnr
  ·obtain ⟨k1,k2,blk,cells,k3,_⟩:=e2
   exact ⟨gb,blk,e1,k1,k3⟩
 obtain ⟨tmf,htm⟩:=zbV (w:=w) p.ins 0 hvars
 let tmp:Array Value:=(Array.range p.ins.length).map tmf
 have htmp:EnvR g (zaS 0 p.ins) tmp:=by
  intro n v e
  have hlt:=zbW p.ins 0 n v e
  have:tmp.getD n undef = tmf n:=by
   simp only [tmp,Array.getD_eq_getD_getElem?,Array.getElem?_map,Array.getElem?_range]
   rw [if_pos (by omega)]
   rfl
  rw [this]
  exact (htm n v e).2
 have henv:EnvR g (zdd p.args xa) (vals++Array.replicate (fn.ntmps - vals.size) undef):=by
  intro n v e
  have:=hs.env n v e
  have eq:(vals++Array.replicate (fn.ntmps - vals.size) undef).getD n undef = vals.getD n undef:=by
   simp only [Array.getD_eq_getD_getElem?]
   by_cases hn:n < vals.size
   ·rw [Array.getElem?_append_left hn]
   ·rw [Array.getElem?_append_right (by omega),Array.getElem?_eq_none (show vals.size≤n by omega),Array.getElem?_replicate]
    split <;> rfl
  rw [eq]
  exact this
 have hs0:StR g { env:=zdd p.args xa,stk:=[zaS 0 p.ins],bxs:=zar p.ins xb } (vals++Array.replicate (fn.ntmps - vals.size) undef) [tmp] w:=⟨henv,⟨htmp,trivial⟩,hs.bxs,hs.fz⟩
 refine zhI hE (zcN hE depth) hf hb hs0 hG (K:=fun _ m s=>match m with
   | .ret=>match resOf E.C s fn.results.toList with
    | some vs =>
     let bx:=frzL s.bxs (tyGs p.res vs++zbs s.bxs p.outs)
     bif (match s.stk with | [e]=>zgx e (zaS 0 p.ins) | _=>false) then decV bx p.res vs fun ya=>zb3 bx p.outs fun yb=>some (ya,yb) else none
    | none=>none
   | _=>none) (L:=1) rfl h ?_
 intro s1 m s' tm' g' w' hk hs' ht
 cases m with
 | rcv p=>trivial
 | pan p=>cases hk
 | ret =>
  simp only at hk
  split at hk
  ·rename_i vs hvs
   obtain ⟨cs,h1,h2,h3⟩:=zbU hE.cfg hs' hvs
   obtain ⟨fz1,h4,t4⟩:=StR.frzL (tyGs p.res vs++zbs s'.bxs p.outs) hs'
   generalize frzL s'.bxs (tyGs p.res vs++zbs s'.bxs p.outs) = bx at hk h4
   cases hptr:(match s'.stk with | [e]=>zgx e (zaS 0 p.ins) | _=>false) with
   | false=>rw [hptr] at hk; cases hk
   | true =>
    rw [hptr,cond_true] at hk
    have hx:ExtBut none g' ⟨fz1,g'.bx⟩:=⟨t4.fz,fun _ _ _ h=>h,fun _ _ h _=>nomatch h⟩
    have hvm:∀ {l:List AV} {cs:List Value},VsR g' l cs→VsR ⟨fz1,g'.bx⟩ l cs:=by
     intro l
     induction l with
     | nil=>intro cs h; cases cs <;> exact h
     | cons v l ih =>
      intro cs h
      cases cs with
      | nil=>exact h.elim
      | cons c cs=>exact ⟨h.1.grow hx,ih h.2⟩
    obtain ⟨ya,k1,k2⟩:=zhJ h4.bxs.w h4.fz a3 hk (hvm h2)
    obtain ⟨yb,k3,k4⟩:=zbN h4.fz h4.bxs.w a4 k1
    cases k3
    have t5:=ht.trans t4
    obtain ⟨ks,hks⟩:∃ ks,ks = p.ins.map (·.1):=⟨_,rfl⟩
    rw [← hks] at k2 k4
    refine ⟨_,zcu h1,cs,Gh.keep ⟨fz1,g'.bx⟩ ks,rfl,k2,⟨?_,?_,?_⟩,h4.fz,t5.trans ⟨rfl,rfl,rfl,Nat.le_refl _,fun _ _ _ h=>h,fun _ _ h=>.inl h,?_,fun _ _ _=>rfl⟩,?_⟩
    ·intro k b e
     obtain ⟨gb,e1,e2⟩:=k4 k b e
     exact ⟨gb,by rw [zbS _ (List.contains_iff_mem.2 (by rw [hks,hkeys]; exact zaG e))]; exact e1,e2⟩
    ·intro k gb e
     simp only [Gh.keep] at e
     split at e
     ·rename_i hm
      exact zaQ (by rw [← hkeys,← hks]; exact hm)
     ·cases e
    ·intro k j a b blk hne e1 e2
     simp only [Gh.keep] at e1 e2
     split at e1
     ·split at e2
      ·exact h4.bxs.sep k j a b blk hne e1 e2
      ·cases e2
     ·cases e1
    ·rintro b ⟨k,gb,e1,e2⟩
     simp only [Gh.keep] at e1
     split at e1
     ·exact .inl ⟨k,gb,e1,e2⟩
     ·cases e1
    ·intro k gb e1 e2
     obtain ⟨b,hbk⟩:=Option.isSome_iff_exists.1 (hs.bxs.dom k gb e1)
     obtain ⟨gb',f1,f2⟩:=hs.bxs.box k b hbk
     rw [e1] at f1
     cases f1
     cases b with
     | row T fz l=>rw [f2.1] at e2; cases e2
     | dead =>
      rcases zbc hbk with ⟨_,_,_,e,_⟩ | ⟨_,_,e,_⟩ | ⟨_,m,e⟩
      ·cases e
      ·cases e
      ·rw [(zaH a5).1 _ _ m] at e; cases e
     | map K V l =>
      rcases zbc hbk with ⟨_,_,_,e,_⟩ | ⟨_,_,e,_⟩ | ⟨_,m,e⟩
      ·cases e
      ·cases e
      ·rw [(zaH a5).1 _ _ m] at e; cases e
     | fmap K V l =>
      rcases zbc hbk with ⟨_,_,_,e,_⟩ | ⟨_,_,e,_⟩ | ⟨_,m,e⟩
      ·cases e
      ·cases e
      ·rw [(zaH a5).1 _ _ m] at e; cases e
     | iter K V l c =>
      rcases zbc hbk with ⟨_,_,_,e,_⟩ | ⟨_,_,e,_⟩ | ⟨_,m,e⟩
      ·cases e
      ·cases e
      ·rw [(zaH a5).1 _ _ m] at e; cases e
     | loop u f i e =>
      rcases zbc hbk with ⟨_,_,_,e,_⟩ | ⟨_,_,e,_⟩ | ⟨_,m,e⟩
      ·cases e
      ·cases e
      ·rw [(zaH a5).1 _ _ m] at e; cases e
     | var gs =>
      obtain ⟨sh,hm⟩:=zjE (zaH a5).1 hbk
      obtain ⟨_,_,blk,cells,f3,_⟩:=f2
      obtain ⟨m,hmem⟩:=zbD (n:=0) hm
      cases hst:s'.stk with
      | nil=>rw [hst] at hptr; cases hptr
      | cons e0 st0 =>
       cases st0 with
       | cons e1 st1=>rw [hst] at hptr; cases hptr
       | nil =>
        rw [hst] at hptr
        have hfd:=zgV hptr m _ hmem
        have hstk:=hs'.stk
        rw [hst] at hstk
        obtain ⟨gb2,blk2,q1,q2,q3,_,q4⟩:=hstk.1 m _ hfd
        have h0:VR g (.ptr k 0 []) (tmp.getD m undef):=by
         have hf0:find (zaS 0 p.ins) m = some (.ptr k 0 []):=by
          have nd:∀ {l:List (Nat × BSh)} {n m:Nat} {v:AV},(m,v)∈zaS n l→n≤m∧find (zaS n l) m = some v:=by
           intro l
           induction l with
           | nil=>intro n m v h; cases h
           | cons x l ih =>
            intro n m v h
            obtain ⟨j,d⟩:=x
            cases d with
            | row T fz=>exact ih h
            | loop u f i e=>exact ih h
            | map S V=>exact ih h
            | fmap S V=>exact ih h
            | iter S V=>exact ih h
            | var gs =>
             simp only [zaS,List.mem_cons] at h
             rcases h with h | h
             ·cases h; exact ⟨Nat.le_refl _,by simp only [zaS,zad]⟩
             ·obtain ⟨i1,i2⟩:=ih h
              exact ⟨by omega,by simp only [zaS]; rw [zab _ _ (by omega)]; exact i2⟩
          exact (nd hmem).2
         exact htmp m _ hf0
        obtain ⟨gb3,blk3,r1,r2,r3,_,r4⟩:=h0
        rw [e1] at r1
        cases r1
        rw [r4] at q4
        simp only [sC,Value.pointer.injEq,sI,Addr.mk.injEq,and_true] at q4
        refine ⟨gb2,?_,q2,?_⟩
        ·rw [zbS _ (List.contains_iff_mem.2 (by rw [hks]; exact List.mem_map.2 ⟨_,hm,rfl⟩))]
         exact q1
        ·rw [q3,r3,q4]
  ·cases hk
end
end Go.V
namespace Go.V
variable [Codes]
inductive ZG where
 | val (T:Ty) | nils | nilp | nilf | nili | nilm
def ZG.av:ZG→AV
 | .val T=>.val T T.dflt
 | .nils=>.nils
 | .nilp=>.nilp
 | .nilf=>.nilf
 | .nili=>.nili
 | .nilm=>.nilm
def chkN (f:List Value→Option (List Value)):Nat→List Value→Option (List Value)
 | 0,l=>some l
 | n + 1,l=>match f l with
  | some r=>chkN f n r
  | none=>none
def chkT:Ty→List Value→Option (List Value)
 | .int k,.int j x :: r=>if k = j∧x = 0 then some r else none
 | .bool,.bool false :: r=>some r
 | .str,.string s :: r=>if s.size = 0 then some r else none
 | .sl _,.slice none 0 0 :: r=>some r
 | .unit,l=>some l
 | .pair a b,l=>match chkT a l with
  | some r=>chkT b r
  | none=>none
 | .arr n e,l=>chkN (fun l=>chkT e l) n l
 | _,_=>none
theorem zmt {α:Type} {f:List Value→Option (List Value)} {Q:α→List Value→Prop} {x:α} (h:∀ cs r,f cs = some r→∃ c,cs = c++r∧Q x c):∀ {n:Nat} {cs r:List Value},chkN f n cs = some r→∃ c,cs = c++r∧Elems Q (List.replicate n x) c
 | 0,cs,r,e=>by
  simp only [chkN,sI] at e
  exact ⟨[],by simp [e],rfl⟩
 | n + 1,cs,r,e=>by
  simp only [chkN] at e
  split at e
  ·rename_i r1 h1
   obtain ⟨c1,rfl,q1⟩:=h _ _ h1
   obtain ⟨c2,rfl,q2⟩:=zmt h e
   exact ⟨c1++c2,by simp,c1,c2,rfl,q1,q2⟩
  ·cases e
theorem zjG {fz:Nat→Nat→Option Value}:∀ {T:Ty} {cs r:List Value},chkT T cs = some r→∃ c,cs = c++r∧CR fz T T.dflt c:=by
 intro T
 induction T with
 | int k =>
  intro cs r h
  match cs,h with
  | .int j x :: r',h =>
   simp only [chkT] at h
   split at h
   ·rename_i hc
    simp only [sI] at h
    subst h
    exact ⟨[_],rfl,by rw [hc.1,hc.2]; rfl⟩
   ·cases h
 | bool =>
  intro cs r h
  match cs,h with
  | .bool false :: r',h=>simp only [chkT,sI] at h; subst h; exact ⟨[_],rfl,rfl⟩
 | str =>
  intro cs r h
  match cs,h with
  | .string s :: r',h =>
   simp only [chkT] at h
   split at h
   ·rename_i hs
    simp only [sI] at h
    subst h
    refine ⟨[_],rfl,?_⟩
    have:s = ⟨#[]⟩:=by
     obtain ⟨a⟩:=s
     congr 1
     exact Array.eq_empty_of_size_eq_zero hs
    rw [this]
    rfl
   ·cases h
 | sl e _ =>
  intro cs r h
  match cs,h with
  | .slice none 0 0 :: r',h=>simp only [chkT,sI] at h; subst h; exact ⟨[_],rfl,_,rfl,.inl ⟨rfl,_,rfl⟩⟩
 | unit =>
  intro cs r h
  simp only [chkT,sI] at h
  subst h
  exact ⟨[],rfl,rfl⟩
 | pair a b iha ihb =>
  intro cs r h
  simp only [chkT] at h
  split at h
  ·rename_i r1 h1
   obtain ⟨c1,rfl,q1⟩:=iha h1
   obtain ⟨c2,rfl,q2⟩:=ihb h
   exact ⟨c1++c2,by simp,c1,c2,rfl,q1,q2⟩
  ·cases h
 | arr n e ih =>
  intro cs r h
  simp only [chkT] at h
  obtain ⟨c,e1,e2⟩:=zmt (Q:=CR fz e) (x:=e.dflt) (fun cs r h=>ih h) h
  exact ⟨c,e1,by simp [Ty.dflt],e2⟩
def chkZ:List ZG→List Value→Bool
 | [],[]=>true
 | .val T :: l,cs=>match chkT T cs with
  | some r=>chkZ l r
  | none=>false
 | .nils :: l,.slice none 0 0 :: r=>chkZ l r
 | .nilp :: l,.pointer none :: r=>chkZ l r
 | .nilf :: l,.nilFunc :: r=>chkZ l r
 | .nili :: l,.nilIface :: r=>chkZ l r
 | .nilm :: l,.map none :: r=>chkZ l r
 | _,_=>false
theorem zds {g:Gh}:∀ {l:List ZG} {cs:List Value},chkZ l cs = true→GsR g (l.map ZG.av) cs
 | [],[],_=>rfl
 | [],_ :: _,h=>by simp [chkZ] at h
 | .val T :: l,cs,h=>by
  simp only [chkZ] at h
  split at h
  ·rename_i r hr
   obtain ⟨c,rfl,q⟩:=zjG (fz:=g.fz) hr
   exact ⟨c,r,rfl,q,zds h⟩
  ·cases h
 | .nils :: l,cs,h=>by
  match cs,h with
  | .slice none 0 0 :: r,h=>exact ⟨[_],r,rfl,rfl,zds h⟩
 | .nilp :: l,cs,h=>by
  match cs,h with
  | .pointer none :: r,h=>exact ⟨[_],r,rfl,rfl,zds h⟩
 | .nilf :: l,cs,h=>by
  match cs,h with
  | .nilFunc :: r,h=>exact ⟨[_],r,rfl,rfl,zds h⟩
 | .nili :: l,cs,h=>by
  match cs,h with
  | .nilIface :: r,h=>exact ⟨[_],r,rfl,rfl,zds h⟩
 | .nilm :: l,cs,h=>by
  match cs,h with
  | .map none :: r,h=>exact ⟨[_],r,rfl,rfl,zds h⟩
def chkU (u:UT) (d:Option TypeDesc):Bool :=
 match u,d with
 | .int k,some (.int j)=>decide (k = j)
 | .bool,some .bool=>true
 | .str,some .string=>true
 | .ptr e,some (.pointer e')=>Nat.beq e e'
 | .sl e,some (.slice e')=>Nat.beq e e'
 | .arr n e,some (.array n' e')=>Nat.beq n n' && Nat.beq e e'
 | .st fs,some (.struct fields)=>decide (fields.toList.map (fun f=>(f.offset,f.type)) = fs)
 | .fn,some (.func _ _ _)=>true
 | .iface,some (.interface _)=>true
 | .map k e,some (.map k' e')=>Nat.beq k k' && Nat.beq e e'
 | .tup,_=>true
 | .oth,_=>true
 | _,_=>false
def chkI (C:Cfg) (t:Nat) (i:TypeInfo):Bool:=Nat.beq i.size (C.size t) && Nat.beq i.bytes (C.bytes.getD t 0)
def zgW:Value→Bool
 | .agg _=>true
 | _=>false
def zeW (C:Cfg) (P:Program) (t:Nat):Bool :=
 (match C.ty t with
  | some (.int k)=>(match P.underlying t with | some (.int j)=>decide (k = j) | _=>false)
  | _=>true) &&
 (match P.info? t with
  | none=>true
  | some i=>match i.zero with
   | none=>true
   | some z=>(match C.under t with
     | .st _=>zgW z
     | u=>u.agg || !u.conc || !zgW z) &&
    (match C.ty t with
     | some T=>T.isAgg == zgW z
     | none=>true))
def za4 (C:Cfg) (zs:List (Option (List ZG))) (P:Program) (t:Nat):Bool :=
 chkU (C.under t) (P.underlying t) &&
 (Nat.beq (C.size t) 0 || (match P.info? t with | some i=>chkI C t i | none=>false)) &&
 (match zs.getD t none with
  | none=>true
  | some gs=>match P.info? t with
   | some i=>chkI C t i && (match i.zero with | some z=>chkZ gs z.cells.toList | none=>false)
   | none=>false) &&
 (match C.ty t with
  | none=>true
  | some T=>Nat.beq T.size (C.size t) && (match P.info? t with
   | some i=>chkI C t i && Nat.ble i.bytes 65536 && (match i.zero with
    | some z=>(match chkT T z.cells.toList with | some []=>true | _=>false)
    | none=>false)
   | none=>false)) && zeW C P t
theorem zf3 {C:Cfg} {t:Nat} {i:TypeInfo} (h:chkI C t i = true):i.size = C.size t∧i.bytes = C.bytes.getD t 0:=by
 simp only [chkI,sA] at h
 exact ⟨sB h.1,sB h.2⟩
theorem zdt {α:Type} {l:List α} {n:Nat} {d:α} (h:l.length≤n):l.getD n d = d:=by
 simp [List.getD,List.getElem?_eq_none h]
def chkEq (P:Program) (t:Nat):Bool :=
 (match P.underlying t with | some (.struct _)=>true | _=>false) && !P.stoodInHeld t && !P.eqGuardType P.depth t && zcL 0 (P.fieldsOf t).toList
theorem znz {C:Cfg} {P:Program} (zs:List (Option (List ZG))) (N:Nat) (he:C.eqs.all (chkEq P) = true) (hz:C.zeros = zs.map (Option.map (List.map ZG.av))) (h1:C.unders.length≤N) (h2:C.sizes.length≤N) (h3:C.tys.length≤N) (h4:zs.length≤N)
  (h:(List.range N).all (za4 C zs P) = true) (ha:C.eqa.all (fun t=>!P.eqGuardType P.depth t) = true:=by rfl):CfgOK C P:=by
 have at_:∀ t,t < N→za4 C zs P t = true:=fun t ht=>List.all_eq_true.1 h t (List.mem_range.2 ht)
 have under:∀ t,C.under t ≠ .oth→chkU (C.under t) (P.underlying t) = true:=by
  intro t ht
  by_cases hN:t < N
  ·have:=at_ t hN
   simp only [za4,sA] at this
   exact this.1.1.1.1
  ·exact absurd (zdt (Nat.le_trans h1 (Nat.le_of_not_lt hN))) ht
 have go:∀ t u,C.under t = u→u ≠ .oth→chkU u (P.underlying t) = true:=fun t u e hn=>by
  have:=under t (by rw [e]; exact hn)
  rwa [e] at this
 have form:∀ t,t < N→zeW C P t = true:=fun t ht=>by
  have:=at_ t ht
  simp only [za4,sA] at this
  exact this.2
 refine ⟨?_,?_,?_,?_,?_,?_,?_,?_,?_,?_,?_,?_,?_,?_,?_,?_,?_,?_,?_⟩
 ·intro t k e
  have:=go t _ e (by simp)
  unfold chkU at this
  split at this <;> first | (rename_i h1 h2; cases h1; done) | (rename_i h1; cases h1; done) | (cases this; done) | skip
  rename_i k' j h1 h2
  cases h1
  rw [of_decide_eq_true this]
  exact h2
 ·intro t e
  have:=go t _ e (by simp)
  unfold chkU at this
  split at this <;> first | (rename_i h1 h2; cases h1; done) | (rename_i h1; cases h1; done) | (cases this; done) | skip
  rename_i h1 h2
  exact h2
 ·intro t e
  have:=go t _ e (by simp)
  unfold chkU at this
  split at this <;> first | (rename_i h1 h2; cases h1; done) | (rename_i h1; cases h1; done) | (cases this; done) | skip
  rename_i h1 h2
  exact h2
 ·intro t e he
  have:=go t _ he (by simp)
  unfold chkU at this
  split at this <;> first | (rename_i h1 h2; cases h1; done) | (rename_i h1; cases h1; done) | (cases this; done) | skip
  rename_i a b h1 h2
  cases h1
  rw [sB this]
  exact h2
 ·intro t e he
  have:=go t _ he (by simp)
  unfold chkU at this
  split at this <;> first | (rename_i h1 h2; cases h1; done) | (rename_i h1; cases h1; done) | (cases this; done) | skip
  rename_i a b h1 h2
  cases h1
  rw [sB this]
  exact h2
 ·intro t n e he
  have:=go t _ he (by simp)
  unfold chkU at this
  split at this <;> first | (rename_i h1 h2; cases h1; done) | (rename_i h1; cases h1; done) | (cases this; done) | skip
  rename_i a b c d h1 h2
  cases h1
  simp only [sA] at this
  rw [sB this.1,sB this.2]
  exact h2
 ·intro t fs he
  have:=go t _ he (by simp)
  unfold chkU at this
  split at this <;> first | (rename_i h1 h2; cases h1; done) | (rename_i h1; cases h1; done) | (cases this; done) | skip
  rename_i a b h1 h2
  cases h1
  exact ⟨_,h2,of_decide_eq_true this⟩
 ·intro t he
  have:=go t _ he (by simp)
  unfold chkU at this
  split at this <;> first | (rename_i h1 h2; cases h1; done) | (rename_i h1; cases h1; done) | (cases this; done) | skip
  rename_i a b c h1 h2
  exact ⟨_,_,_,h2⟩
 ·intro t he
  have:=go t _ he (by simp)
  unfold chkU at this
  split at this <;> first | (rename_i h1 h2; cases h1; done) | (rename_i h1; cases h1; done) | (cases this; done) | skip
  rename_i a h1 h2
  exact ⟨_,h2⟩
 ·intro t k e he
  have:=go t _ he (by simp)
  unfold chkU at this
  split at this <;> first | (rename_i h1 h2; cases h1; done) | (rename_i h1; cases h1; done) | (cases this; done) | skip
  rename_i a b c d h1 h2
  cases h1
  simp only [sA] at this
  rw [sB this.1,sB this.2]
  exact h2
 ·intro t ht
  have:=List.all_eq_true.1 he t (List.contains_iff_mem.1 ht)
  simp only [chkEq,sA,Bool.not_eq_true'] at this
  obtain ⟨⟨⟨h1,h2⟩,h3⟩,h4⟩:=this
  refine ⟨?_,h2,h3,h4⟩
  unfold Program.fieldsOf
  split at h1
  ·rename_i fs hu; rw [hu]
  ·cases h1
 ·intro t ht
  have:=List.all_eq_true.1 ha t (List.contains_iff_mem.1 ht)
  simpa using this
 ·intro t ht
  by_cases hN:t < N
  ·have:=at_ t hN
   simp only [za4,sA,Bool.or_eq_true] at this
   rcases this.1.1.1.2 with h | h
   ·exact absurd (sB h) ht
   ·split at h
    ·rename_i i hi
     exact ⟨i,hi,zf3 h⟩
    ·cases h
  ·exact absurd (zdt (Nat.le_trans h2 (Nat.le_of_not_lt hN))) ht
 ·intro t gs hgs
  have e:(zs.getD t none).map (List.map ZG.av) = some gs:=by
   rw [← hgs,Cfg.zero,hz]
   simp only [List.getD,List.getElem?_map]
   cases zs[t]? <;> rfl
  rw [Option.map_eq_some_iff] at e
  obtain ⟨zg,e1,rfl⟩:=e
  by_cases hN:t < N
  ·have:=at_ t hN
   simp only [za4,sA] at this
   have h:=this.1.1.2
   rw [e1] at h
   simp only at h
   split at h
   ·rename_i i hi
    simp only [sA] at h
    obtain ⟨k1,k2⟩:=h
    split at k2
    ·rename_i z hiz
     obtain ⟨k3,k4⟩:=zf3 k1
     exact ⟨i,z,hi,k3,k4,hiz,fun g=>zds k2⟩
    ·cases k2
   ·cases h
  ·rw [zdt (Nat.le_trans h4 (Nat.le_of_not_lt hN))] at e1
   cases e1
 ·intro t T hT
  by_cases hN:t < N
  ·have:=at_ t hN
   simp only [za4,sA] at this
   have h:=this.1.2
   rw [hT] at h
   simp only [sA] at h
   obtain ⟨k0,h⟩:=h
   split at h
   ·rename_i i hi
    simp only [sA] at h
    obtain ⟨⟨k1,kb⟩,k2⟩:=h
    split at k2
    ·rename_i z hiz
     obtain ⟨k3,k4⟩:=zf3 k1
     refine ⟨sB k0,i,z,hi,k3,k4,Nat.le_of_ble_eq_true kb,hiz,fun fz=>?_⟩
     split at k2
     ·rename_i hr
      obtain ⟨c,e,q⟩:=zjG (fz:=fz) hr
      rw [List.append_nil] at e
      rw [e]
      exact q
     ·cases k2
    ·cases k2
   ·cases h
  ·have e:C.ty t = none:=zdt (Nat.le_trans h3 (Nat.le_of_not_lt hN))
   rw [e] at hT
   cases hT
 ·intro t k hT
  by_cases hN:t < N
  ·have h:=form t hN
   simp only [zeW,hT,sA] at h
   have h1:=h.1
   split at h1
   ·rename_i j hj
    rw [of_decide_eq_true h1]
    exact hj
   ·cases h1
  ·have e:C.ty t = none:=zdt (Nat.le_trans h3 (Nat.le_of_not_lt hN))
   rw [e] at hT
   cases hT
 ·intro t T hT i z hi hiz fz
  by_cases hN:t < N
  ·have h:=form t hN
   simp only [zeW,hT,hi,hiz,sA] at h
   have h2:=eq_of_beq h.2.2
   have hc:CR fz T T.dflt z.cells.toList:=by
    have:=at_ t hN
    simp only [za4,sA] at this
    have h:=this.1.2
    rw [hT] at h
    simp only [hi,hiz,sA] at h
    have h5:=h.2.2
    split at h5
    ·rename_i hr
     obtain ⟨c,e,q⟩:=zjG (fz:=fz) hr
     rw [List.append_nil] at e
     rw [e]
     exact q
    ·cases h5
   refine ⟨z.cells,hc,?_⟩
   cases z <;> simp only [zgW] at h2 <;> rw [h2] <;> rfl
  ·have e:C.ty t = none:=zdt (Nat.le_trans h3 (Nat.le_of_not_lt hN))
   rw [e] at hT
   cases hT
 ·intro t fs i z hu hi hiz
  by_cases hN:t < N
  ·have h:=form t hN
   simp only [zeW,hu,hi,hiz,sA] at h
   have h2:=h.2.1
   cases z <;> simp only [zgW,sF] at h2
   exact ⟨_,rfl⟩
  ·have e:C.under t = .oth:=zdt (Nat.le_trans h1 (Nat.le_of_not_lt hN))
   rw [e] at hu
   cases hu
 ·intro t i z ha hcn hi hiz a hz
  subst hz
  by_cases hN:t < N
  ·have h:=form t hN
   simp only [zeW,hi,hiz,sA] at h
   have h2:=h.2.1
   cases hu:C.under t <;> rw [hu] at h2 ha hcn <;> simp [UT.agg,UT.conc,zgW] at h2 ha hcn
  ·have e:C.under t = .oth:=zdt (Nat.le_trans h1 (Nat.le_of_not_lt hN))
   rw [e] at hcn
   cases hcn
theorem zf4:∀ {l:List Code},idsOk (l.map zas) = true→∀ {b:Code},b∈l→findLoop l (zas b) = b
 | [],_,_,h=>by simp at h
 | c :: l,hk,b,h=>by
  simp only [List.map_cons,idsOk,sA,Bool.not_eq_true'] at hk
  simp only [findLoop]
  by_cases he:zas c = zas b
  ·rw [he,Nat.beq_refl,cond_true]
   rcases List.mem_cons.1 h with rfl | h
   ·rfl
   ·have:(l.map zas).contains (zas c) = true:=by
     rw [List.contains_iff_mem,he]
     exact List.mem_map.2 ⟨b,h,rfl⟩
    rw [this] at hk
    cases hk.1
  ·rw [zb6 he,cond_false]
   rcases List.mem_cons.1 h with rfl | h
   ·exact absurd rfl he
   ·exact zf4 hk.2 h
theorem zmu {tot:List Nat} {c b:Code} {fn:Func} (hb:fn.body = some c) (hf:funOk tot fn = true) (h:b∈zaz c):zao c (zas b) = b:=by
 unfold funOk at hf
 rw [hb] at hf
 simp only [sA] at hf
 exact zf4 hf.1.1.1.2 h
def zhK (E:Env0):List (Key × LSpec)→Prop
 | []=>True
 | (k,l) :: r=>(∃ fn c,find E.F k.f = some fn∧fn.body = some c∧zan E k.d k.f k.base (zao c k.id) l)∧zhK E r
theorem znA {l:List (Key × LSpec)} {E:Env0} (h:zhK E l) {k:Key} {s:LSpec} (hk:findL l k = some s):∃ fn c,find E.F k.f = some fn∧fn.body = some c∧zan E k.d k.f k.base (zao c k.id) s:=by
 induction l with
 | nil=>cases hk
 | cons x l ih =>
  obtain ⟨j,u⟩:=x
  simp only [findL] at hk
  cases hb:j.beq k
  ·rw [hb] at hk; exact ih h.2 hk
  ·rw [hb] at hk
   simp only [cond_true,sI] at hk
   subst hk
   simp only [Key.beq,sA] at hb
   obtain ⟨fn,c,h1,h2,h3⟩:=h.1
   rw [← sB hb.1.1.1,← sB hb.1.1.2,← sB hb.1.2,← sB hb.2]
   exact ⟨fn,c,h1,h2,h3⟩
def zkt (E:Env0) (P:Program):List (Nat × Func)→Prop
 | []=>True
 | (f,fn) :: r=>(P.funcs[f]? = some fn∧funOk (E.totOf f) fn = true)∧zkt E P r
theorem zex {E:Env0} {P:Program}:∀ {l:List (Nat × Func)},zkt E P l→∀ {f:Nat} {fn:Func},find l f = some fn→P.funcs[f]? = some fn∧funOk (E.totOf f) fn = true
 | [],_,_,_,h=>nomatch h
 | (f,fn) :: l,⟨h1,h2⟩,k,u,h=>by
  by_cases hk:f = k
  ·subst hk; rw [zad] at h; cases h; exact h1
  ·rw [zab _ _ hk] at h; exact zex h2 h
def zhL (P:Program) (C:Cfg):List (Nat × PSpec)→Prop
 | []=>True
 | (f,p) :: r=>(zbh P C f p∧zaA P f)∧zhL P C r
theorem zgX {P:Program} {C:Cfg}:∀ {l:List (Nat × PSpec)},zhL P C l→∀ {f:Nat} {p:PSpec},find l f = some p→zbh P C f p∧zaA P f
 | [],_,_,_,h=>nomatch h
 | (f,fn) :: l,⟨h1,h2⟩,k,u,h=>by
  by_cases hk:f = k
  ·subst hk; rw [zad] at h; cases h; exact h1
  ·rw [zab _ _ hk] at h; exact zgX h2 h
def zhM (P:Program) (C:Cfg):List (Nat × CSpec)→Prop
 | []=>True
 | (f,p) :: r=>(zgM P C f p∧p.ok = true∧zaA P f)∧zhM P C r
theorem zgY {P:Program} {C:Cfg}:∀ {l:List (Nat × CSpec)},zhM P C l→∀ {f:Nat} {p:CSpec},find l f = some p→zgM P C f p∧p.ok = true∧zaA P f
 | [],_,_,_,h=>nomatch h
 | (f,fn) :: l,⟨h1,h2⟩,k,u,h=>by
  by_cases hk:f = k
  ·subst hk; rw [zad] at h; cases h; exact h1
  ·rw [zab _ _ hk] at h; exact zgY h2 h
def zhN (P:Program) (f id:Nat):Option LCode :=
 match P.funcs[f]? with
 | some fn=>match fn.body with
  | some c=>find (zal fn.ntmps c) id
  | none=>none
 | none=>none
def zey (P:Program) (C:Cfg):List (Nat × RSpec)→Prop
 | []=>True
 | (f,p) :: r=>(zhA P C f p∧zaA P f)∧zey P C r
theorem zgZ {P:Program} {C:Cfg}:∀ {l:List (Nat × RSpec)},zey P C l→∀ {f:Nat} {p:RSpec},find l f = some p→zhA P C f p∧zaA P f
 | [],_,_,_,h=>nomatch h
 | (f,fn) :: l,⟨h1,h2⟩,k,u,h=>by
  by_cases hk:f = k
  ·subst hk; rw [zad] at h; cases h; exact h1
  ·rw [zab _ _ hk] at h; exact zgZ h2 h
def zhO (P:Program) (C:Cfg):List (Nat × ISpec)→Prop
 | []=>True
 | (f,p) :: r=>(InOK P C f p∧zaA P f)∧zhO P C r
theorem ziI {P:Program} {C:Cfg}:∀ {l:List (Nat × ISpec)},zhO P C l→∀ {f:Nat} {p:ISpec},find l f = some p→InOK P C f p∧zaA P f
 | [],_,_,_,h=>nomatch h
 | (f,fn) :: l,⟨h1,h2⟩,k,u,h=>by
  by_cases hk:f = k
  ·subst hk; rw [zad] at h; cases h; exact h1
  ·rw [zab _ _ hk] at h; exact ziI h2 h
def zku (P:Program) (C:Cfg):List (Nat × MSpec)→Prop
 | []=>True
 | (f,p) :: r=>(MapOK P C f p∧zaA P f)∧zku P C r
theorem ziJ {P:Program} {C:Cfg}:∀ {l:List (Nat × MSpec)},zku P C l→∀ {f:Nat} {p:MSpec},find l f = some p→MapOK P C f p∧zaA P f
 | [],_,_,_,h=>nomatch h
 | (f,fn) :: l,⟨h1,h2⟩,k,u,h=>by
  by_cases hk:f = k
  ·subst hk; rw [zad] at h; cases h; exact h1
  ·rw [zab _ _ hk] at h; exact ziJ h2 h
theorem znB {P:Program} {E:Env0} (hcd:∀ f id,Codes.cd f id = zhN P f id) (h0:P.follows .mixedOrders = true) (h1:CfgOK E.C P) (h2:zhL P E.C E.P) (h5:zhM P E.C E.S) (h3:zkt E P E.F) (h4:zhK E E.L) (h6:zey P E.C E.R:=by trivial) (h7:zhO P E.C E.I:=by trivial) (h8:zku P E.C E.M:=by trivial):EnvOK P E :=
 ⟨h0,h1,fun _ _ h=>zgX h2 h,fun _ _ h=>zgZ h6 h,fun _ _ h=>ziJ h8 h,fun _ _ h=>zgY h5 h,fun _ _ h=>ziI h7 h,fun _ _ h=>zex h3 h,fun f fn c hf hb id=>by rw [hcd]; unfold zhN; rw [(zex h3 hf).1]; simp only; rw [hb],fun d base f fn c b l hf hb hm hl=>by
  obtain ⟨fn',c',e1,e2,e3⟩:=znA h4 hl
  simp only at e1 e3
  rw [hf] at e1
  cases e1
  rw [hb] at e2
  cases e2
  rw [zmu hb (zex h3 hf).2 hm] at e3
  exact e3⟩
theorem zae {E:Env0} {d f base:Nat} {c:Code} {l:LSpec} (h0:l.ok = true) (step:Nat→l.head.den→Option (outDen l.outs)) (h1:∀ x o,l.fn x = some o→∃ n,step n x = some o) (h2:∀ x,step 0 x = none)
  (h3:∀ n x,runB E d f base c l (step n) x = step (n + 1) x):zan E d f base c l :=
 ⟨h0,step,h1,h2,fun n x o h=>by rw [h3]; exact h⟩
end Go.V
namespace Go.V
variable [Codes]
section
variable {P:Program} {C:Cfg}
def entOk (fn : Func) : Bool := fn.body.isSome && !(fn.name == "runtime.NumGoroutine")
theorem zez {f:Nat} {fn:Func} (h1:P.funcs[f]? = some fn) (h2:entOk fn = true):zaA P f:=by
 unfold entOk at h2
 simp only [sA,Bool.not_eq_true'] at h2
 refine ⟨fn,h1,h2.2,?_⟩
 cases hb:fn.body with
 | none=>rw [hb] at h2; cases h2.1
 | some c=>rfl
end
end Go.V
namespace Go.V
variable [Codes]
def Ty.ok:(T:Ty)→T.den→Prop
 | .int k,x=>k.min≤x∧x≤k.max
 | .bool,_=>True
 | .str,s=>s.size≤maxLen
 | .sl e,l=>l.length≤maxLen∧∀ x∈l,e.ok x
 | .unit,_=>True
 | .pair a b,x=>a.ok x.1∧b.ok x.2
 | .arr n e,l=>l.length = n∧∀ x∈l,e.ok x
def tysOk:(l:List Ty)→tysDen l→Prop
 | [],_=>True
 | T :: l,x=>T.ok x.1∧tysOk l x.2
def fit (C:Cfg):Ty→UT→Nat→Bool
 | .int k,.int j,_=>decide (k = j)
 | .bool,.bool,_=>true
 | .str,.str,_=>true
 | .sl S,.sl e,_=>fit C S (C.under e) 0 && Nat.beq (C.size e) S.size && !Nat.beq S.size 0
 | .arr n S,.arr m e,_=>Nat.beq n m && fit C S (C.under e) 0 && Nat.beq (C.size e) S.size && !Nat.beq S.size 0
 | .unit,.st [],_=>true
 | .pair A B,.st ((o,t) :: fs),off=>Nat.beq o off && fit C A (C.under t) 0 && Nat.beq (C.size t) A.size && !Nat.beq A.size 0 && fit C B (.st fs) (off + A.size)
 | _,_,_=>false
section
variable {C:Cfg} {P:Program} {H:Type} {enc:TypeId × Value→H} {w:World} {held:Bool}
theorem zcO (hC:CfgOK C P) {t n:Nat} (h:C.size t = n) (hn:n ≠ 0):P.cellsOf t = n:=by
 obtain ⟨i,h1,h2,_⟩:=hC.size t (by rw [h]; exact hn)
 unfold Program.cellsOf
 rw [h1]
 simp only [Option.map_some,Option.getD_some]
 rw [h2,h]
theorem zk6 {α:Type} {f:Nat→Option α} {l:List α}:∀ {n:Nat},(List.range n).mapM f = some l→l.length = n∧∀ i,i < n→f i = l[i]?:=by
 intro n h
 have key:∀ (xs:List Nat) (l:List α),xs.mapM f = some l→l.length = xs.length∧∀ i,i < xs.length→(xs[i]?).bind f = l[i]?:=by
  intro xs
  induction xs with
  | nil=>intro l h; simp at h; subst h; exact ⟨rfl,fun i hi=>absurd hi (by simp)⟩
  | cons x xs ih =>
   intro l h
   rw [List.mapM_cons] at h
   cases hx:f x with
   | none=>simp [hx] at h
   | some y =>
    cases hr:xs.mapM f with
    | none=>simp [hx,hr] at h
    | some ys =>
     simp [hx,hr] at h
     subst h
     obtain ⟨h1,h2⟩:=ih ys hr
     refine ⟨by simp [h1],fun i hi=>?_⟩
     cases i with
     | zero=>simp [hx]
     | succ i=>simpa using h2 i (by simpa using hi)
 obtain ⟨h1,h2⟩:=key _ _ h
 rw [List.length_range] at h1
 refine ⟨h1,fun i hi=>?_⟩
 have:=h2 i (by simpa using hi)
 rwa [List.getElem?_range hi] at this
theorem zkv {α:Type} {R:α→List Value→Prop} {ok:α→Prop} {sz:Nat}:∀ (n:Nat) (cs:List Value),cs.length = n * sz→(∀ i,i < n→∃ x,R x ((cs.drop (i * sz)).take sz)∧ok x) →
  ∃ l:List α,l.length = n∧Elems R l cs∧∀ x∈l,ok x
 | 0,cs,hl,_=>⟨[],rfl,List.eq_nil_of_length_eq_zero (by simpa using hl),fun _ h=>nomatch h⟩
 | n + 1,cs,hl,h=>by
  obtain ⟨x,h1,h2⟩:=h 0 (by omega)
  obtain ⟨l,k1,k2,k3⟩:=zkv (R:=R) (ok:=ok) (sz:=sz) n (cs.drop sz) (by rw [List.length_drop,hl,Nat.succ_mul]; omega) (fun i hi=>by
   obtain ⟨y,q1,q2⟩:=h (i + 1) (by omega)
   refine ⟨y,?_,q2⟩
   rw [List.drop_drop]
   have:sz + i * sz = (i + 1) * sz:=by rw [Nat.succ_mul]; omega
   rw [this]
   exact q1)
  refine ⟨x :: l,by simp [k1],⟨cs.take sz,cs.drop sz,(List.take_append_drop _ _).symm,by simpa using h1,k2⟩,fun y hy=>?_⟩
  rcases List.mem_cons.1 hy with rfl | hy
  ·exact h2
  ·exact k3 y hy
def allFz (w:World):Nat→Nat→Option Value:=fun b o=>match w.cell? ⟨b,o,none⟩ with
 | some v=>if isTup v = true then none else some v
 | none=>none
theorem zkw {w:World} {b o:Nat} {v:Value} (h:w.cell? ⟨b,o,none⟩ = some v) (hv:v.oneCell' = true):allFz w b o = some v:=by
 unfold allFz
 rw [h]
 simp [zfG hv]
theorem znC (w:World):FzOK (.of (allFz w)) w:=fun b o v e=>by
 have e':allFz w b o = some v:=e
 unfold allFz at e'
 split at e'
 ·rename_i u hu
  split at e'
  ·cases e'
  ·rename_i ht
   cases e'
   exact ⟨fun _=>hu,fun h=>absurd h ht⟩
 ·cases e'
theorem cells_at {a:Addr} {n:Nat} {cs:List Value} (h:w.cells? 0 a n = some cs):cs.length = n∧∀ j,j < n→w.cell? (a.add j) = cs[j]?:=by
 unfold World.cells? at h
 rw [if_pos (Nat.zero_le _)] at h
 exact zk6 h
theorem ze7 {a:Addr} {v:Value} (h:w.cell? a = some v):a.spot = none:=by
 unfold World.cell? at h
 split at h
 ·split at h
  ·cases h
  ·rename_i hs; cases hsp:a.spot with
   | none=>rfl
   | some _=>rw [hsp] at hs; simp at hs
 ·cases h
mutual
theorem ziK (hC:CfgOK C P):∀ (T:Ty) (t:TypeId) (fuel:Nat) (cs:List Value) (x:DataW H × List MemPlace),fit C T (C.under t) 0 = true→(T.size = 0→cs = [])→(T.size ≠ 0→C.size t = T.size) →
  DataW.trod enc P w 0 (fun _=>true) held fuel t cs = some x→∃ y,CR (allFz w) T y cs∧T.ok y
 | .int k,t,fuel,cs,x,hf,_,_,h=>by
  cases hu:C.under t <;> rw [hu] at hf <;> simp only [fit,decide_eq_true_eq,sF] at hf
  subst hf
  obtain ⟨n,rfl,rfl,hw⟩:=DataW.trod_int (hC.int _ _ hu) h
  simp only [Lit.wf,sA,decide_eq_true_eq] at hw
  exact ⟨n,rfl,hw⟩
 | .bool,t,fuel,cs,x,hf,_,_,h=>by
  cases hu:C.under t <;> rw [hu] at hf <;> simp only [fit,sF] at hf
  obtain ⟨n,rfl,rfl⟩:=DataW.trod_bool (hC.bool _ hu) h
  exact ⟨n,rfl,trivial⟩
 | .str,t,fuel,cs,x,hf,_,_,h=>by
  cases hu:C.under t <;> rw [hu] at hf <;> simp only [fit,sF] at hf
  obtain ⟨n,rfl,rfl,hw⟩:=DataW.trod_string (hC.str _ hu) h
  exact ⟨n,rfl,hw⟩
 | .sl S,t,fuel,cs,x,hf,_,_,h=>by
  cases hu:C.under t <;> rw [hu] at hf <;> simp only [fit,sA,Bool.not_eq_true',sF] at hf
  rename_i e
  obtain ⟨⟨f1,f3⟩,f4⟩:=hf
  have hsz:S.size ≠ 0:=fun e=>by rw [e] at f4; cases f4
  have hce:=sB f3
  have hcells:=zcO hC hce hsz
  rcases DataW.trod_slice (hC.sl _ _ hu) h with ⟨rfl,_⟩ | ⟨a,len,cap,elems,rest,n,rfl,rfl,_,_,hlc,hcm,hel,he,hrest,_⟩
  ·exact ⟨[],⟨_,rfl,.inl ⟨rfl,_,rfl⟩⟩,Nat.zero_le _,fun _ h=>nomatch h⟩
  ·rw [hcells] at he
   have one:∀ i,i < len→∃ cs,w.cells? 0 (a.add (i * S.size)) S.size = some cs∧∃ y,DataW.trod enc P w 0 (fun _=>true) held n e cs = some y:=by
    intro i hi
    have:=he i hi
    rw [List.getElem?_eq_getElem (by omega)] at this
    obtain ⟨cs,h1,h2⟩:=Option.bind_eq_some_iff.1 this
    exact ⟨cs,h1,_,h2⟩
   by_cases hc0:cap = 0
   ·subst hc0
    obtain rfl:len = 0:=by omega
    exact ⟨[],⟨_,rfl,.inl ⟨rfl,_,rfl⟩⟩,Nat.zero_le _,fun _ h=>nomatch h⟩
   have hspot:a.spot = none:=by
    cases len with
    | zero =>
     obtain ⟨q1,q2⟩:=hrest rfl
     have:=q2 0 (by omega)
     rw [hcells,List.getElem?_eq_getElem (by omega)] at this
     obtain ⟨cs,h1,_⟩:=Option.bind_eq_some_iff.1 this
     obtain ⟨h2,h3⟩:=cells_at h1
     have h4:=h3 0 (by omega)
     rw [List.getElem?_eq_getElem (by omega)] at h4
     have:=ze7 h4
     simpa [Addr.add] using this
    | succ len =>
     obtain ⟨cs,h1,_⟩:=one 0 (by omega)
     obtain ⟨h2,h3⟩:=cells_at h1
     have h4:=h3 0 (by omega)
     rw [List.getElem?_eq_getElem (by omega)] at h4
     have:=ze7 h4
     simpa [Addr.add] using this
   obtain ⟨blk,off,spot⟩:=a
   simp only at hspot
   subst hspot
   let all:List Value:=(List.range len).flatMap fun i=>(w.cells? 0 ((⟨blk,off,none⟩:Addr).add (i * S.size)) S.size).getD []
   have key:∀ m,m≤len→∃ l:List S.den,∃ cs,l.length = m∧Elems (CR (allFz w) S) l cs∧cs.length = m * S.size∧Fz (allFz w) blk off cs∧∀ y∈l,S.ok y:=by
    intro m
    induction m with
    | zero=>exact fun _=>⟨[],[],rfl,rfl,by simp,fun j v e=>by simp at e,fun _ h=>nomatch h⟩
    | succ m ih =>
     intro hm
     obtain ⟨l,cs,k1,k2,k3,k4,k5⟩:=ih (by omega)
     obtain ⟨cs1,h1,y1,h2⟩:=one m (by omega)
     obtain ⟨q1,q2⟩:=cells_at h1
     obtain ⟨y,q3,q4⟩:=ziK hC S e n cs1 y1 f1 (fun e=>absurd e hsz) (fun _=>hce) h2
     refine ⟨l++[y],cs++cs1,by simp [k1],?_,by simp [k3,q1,Nat.succ_mul],?_,?_⟩
     ·exact Elems.append k2 ⟨cs1,[],by simp,q3,rfl⟩
     ·intro j v e
      by_cases hj:j < cs.length
      ·rw [List.getElem?_append_left hj] at e; exact k4 j v e
      ·rw [List.getElem?_append_right (by omega)] at e
       have hj2:j - cs.length < S.size:=by
        have:=(List.getElem?_eq_some_iff.1 e).1
        omega
       have:=q2 _ hj2
       rw [e] at this
       refine zkw ?_ (q3.one v (List.mem_of_getElem? e))
       rw [← this]
       rw [zaZ,zaZ]
       congr 2
       omega
     ·intro z hz
      rcases List.mem_append.1 hz with hz | hz
      ·exact k5 z hz
      ·simp at hz; subst hz; exact q4
   obtain ⟨l,cs,k1,k2,k3,k4,k5⟩:=key len (Nat.le_refl _)
   refine ⟨l,⟨_,rfl,.inr ⟨blk,off,cap,cs,by rw [k1],by rw [k1]; exact hlc,k2,k4⟩⟩,?_,k5⟩
   rw [k1]; omega
 | .arr n S,t,fuel,cs,x,hf,hz0,hsize,h=>by
  cases hu:C.under t <;> rw [hu] at hf <;> simp only [fit,sA,Bool.not_eq_true',sF] at hf
  rename_i m e
  obtain ⟨⟨⟨f0,f1⟩,f3⟩,f4⟩:=hf
  have hnm:=sB f0
  subst hnm
  have hsz:S.size ≠ 0:=fun e=>by rw [e] at f4; cases f4
  have hce:=sB f3
  have hcells:=zcO hC hce hsz
  obtain ⟨xs,m,_,rfl,hl,hxs,he⟩:=DataW.trod_array (hC.arr _ _ _ hu) h
  rw [hcells] at he
  have hlen:cs.length = n * S.size:=by
   by_cases hz:n * S.size = 0
   ·have:n = 0:=by
     rcases Nat.mul_eq_zero.1 hz with h | h
     ·exact h
     ·exact absurd h hsz
    subst this
    rw [hz0 (by simp [Ty.size])]
    simp
   ·rw [hl]
    exact zcO hC (hsize (by simpa [Ty.size] using hz)) (by simpa [Ty.size] using hz)
  obtain ⟨l,k1,k2,k3⟩:=zkv (R:=CR (allFz w) S) (ok:=S.ok) n cs hlen (fun i hi=>by
   have:=he i hi
   rw [List.getElem?_eq_getElem (by omega)] at this
   exact ziK hC S e m _ _ f1 (fun e=>absurd e hsz) (fun _=>hce) this)
  exact ⟨l,⟨k1,k2⟩,k1,k3⟩
 | .unit,t,fuel,cs,x,hf,hz,_,h=>⟨(),hz rfl,trivial⟩
 | .pair A B,t,fuel,cs,x,hf,_,hsize,h=>by
  cases hu:C.under t <;> rw [hu] at hf <;> try (simp only [fit,sF] at hf; done)
  rename_i fs
  obtain ⟨fields,hd,hfs⟩:=hC.st _ _ hu
  obtain ⟨xs,m,_,rfl,hl,hxs,he⟩:=DataW.trod_struct hd h
  have hAB:(Ty.pair A B).size ≠ 0:=by
   cases fs with
   | nil=>simp [fit] at hf
   | cons f fs =>
    simp only [fit,sA,Bool.not_eq_true'] at hf
    intro e
    simp only [Ty.size] at e
    have:A.size = 0:=by omega
    rw [this] at hf
    exact absurd hf.1.2 (by decide)
  have hlen:cs.length = (Ty.pair A B).size:=by
   rw [hl]; exact zcO hC (hsize hAB) hAB
  obtain ⟨y,h1,h2⟩:=znZ hC (.pair A B) fields.toList 0 m cs xs 0 (by rw [hfs]; exact hf) (by omega) (fun i f hf=>by
   have:=he i f (by simpa using hf)
   simpa using this) (by rw [hxs]; simp)
  exact ⟨y,by simpa using h1,h2⟩
theorem znZ (hC:CfgOK C P):∀ (T:Ty) (fields:List Field) (off fuel:Nat) (cs:List Value) (xs:List (DataW H × List MemPlace)) (k:Nat),fit C T (.st (fields.map fun f=>(f.offset,f.type))) off = true→cs.length = off + T.size →
  (∀ i f,fields[i]? = some f→DataW.trod enc P w 0 (fun _=>true) held fuel f.type ((cs.drop f.offset).take (P.cellsOf f.type)) = xs[k + i]?)→k + fields.length = xs.length →
  ∃ y,CR (allFz w) T y (cs.drop off)∧T.ok y
 | .unit,fields,off,fuel,cs,xs,k,hf,hl,_,_=>by
  refine ⟨(),?_,trivial⟩
  show cs.drop off = []
  rw [List.drop_eq_nil_iff]
  simp only [Ty.size] at hl
  omega
 | .pair A B,[],off,fuel,cs,xs,k,hf,hl,_,_=>by simp [fit] at hf
 | .pair A B,f :: fields,off,fuel,cs,xs,k,hf,hl,he,hk=>by
  simp only [List.map_cons,fit,sA,Bool.not_eq_true'] at hf
  obtain ⟨⟨⟨⟨f1,f2⟩,f3⟩,f4⟩,f5⟩:=hf
  have hoff:=sB f1
  have hsz:A.size ≠ 0:=fun e=>by rw [e] at f4; cases f4
  have hce:=sB f3
  have hcells:=zcO hC hce hsz
  have h0:=he 0 f rfl
  simp only [List.length_cons] at hk
  rw [Nat.add_zero,List.getElem?_eq_getElem (by omega),hoff,hcells] at h0
  simp only [Ty.size] at hl
  obtain ⟨a,h1,h2⟩:=ziK hC A f.type fuel _ _ f2 (fun e=>absurd e hsz) (fun _=>hce) h0
  obtain ⟨b,h3,h4⟩:=znZ hC B fields (off + A.size) fuel cs xs (k + 1) f5 (by omega) (fun i g hg=>by
   have:=he (i + 1) g (by simpa using hg)
   rw [this]; congr 1; omega) (by omega)
  refine ⟨(a,b),⟨(cs.drop off).take A.size,cs.drop (off + A.size),?_,h1,h3⟩,h2,h4⟩
  rw [← List.drop_drop,List.take_append_drop]
 | .int _,fields,off,_,_,_,_,hf,_,_,_=>by cases fields <;> simp [fit] at hf
 | .bool,fields,off,_,_,_,_,hf,_,_,_=>by cases fields <;> simp [fit] at hf
 | .str,fields,off,_,_,_,_,hf,_,_,_=>by cases fields <;> simp [fit] at hf
 | .sl _,fields,off,_,_,_,_,hf,_,_,_=>by cases fields <;> simp [fit] at hf
 | .arr _ _,fields,off,_,_,_,_,hf,_,_,_=>by cases fields <;> simp [fit] at hf
end
def fitAll (C:Cfg):List TypeId→List Ty→Bool
 | [],[]=>true
 | t :: ts,T :: Ts=>fit C T (C.under t) 0 && (Nat.beq (C.size t) T.size && !Nat.beq T.size 0) && fitAll C ts Ts
 | _,_=>false
theorem zoG (hC:CfgOK C P) {T:Ty} {t:TypeId} (hf:fit C T (C.under t) 0 = true) :
  (T.isAgg = true∧((∃ fs,P.underlying t = some (.struct fs)) ∨ ∃ n e,P.underlying t = some (.array n e))) ∨
  (T.isAgg = false∧(∀ fs,P.underlying t ≠ some (.struct fs))∧(∀ n e,P.underlying t ≠ some (.array n e))):=by
 cases T <;> cases hu:C.under t <;> rw [hu] at hf <;> try (simp only [fit,sF] at hf; done)
 case int.int=>exact .inr ⟨rfl,by rw [hC.int _ _ hu]; simp,by rw [hC.int _ _ hu]; simp⟩
 case bool.bool=>exact .inr ⟨rfl,by rw [hC.bool _ hu]; simp,by rw [hC.bool _ hu]; simp⟩
 case str.str=>exact .inr ⟨rfl,by rw [hC.str _ hu]; simp,by rw [hC.str _ hu]; simp⟩
 case sl.sl=>exact .inr ⟨rfl,by rw [hC.sl _ _ hu]; simp,by rw [hC.sl _ _ hu]; simp⟩
 case arr.arr=>exact .inl ⟨rfl,.inr ⟨_,_,hC.arr _ _ _ hu⟩⟩
 case unit.st=>obtain ⟨f,h,_⟩:=hC.st _ _ hu; exact .inl ⟨rfl,.inl ⟨_,h⟩⟩
 case pair.st=>obtain ⟨f,h,_⟩:=hC.st _ _ hu; exact .inl ⟨rfl,.inl ⟨_,h⟩⟩
theorem zo5 (hC:CfgOK C P) {T:Ty} {t:TypeId} {v:Value} {d:DataW H} {p:List MemPlace} (hf:fit C T (C.under t) 0 = true) (hz:C.size t = T.size) (hn:T.size ≠ 0) {base:Nat}
  (hv:Value.okWide P w .any base t v) (h:DataW.Trod enc P w 0 (fun _=>true) held t v d p):∃ x,TV (allFz w) T x v∧T.ok x:=by
 obtain ⟨fuel,h⟩:=h
 unfold Value.okWide at hv
 rcases zoG hC hf with ⟨ha,hu⟩ | ⟨ha,hu1,hu2⟩
 ·have hv':∃ cs,v = .agg cs∧cs.size = P.cellsOf t∧Row.okWide P w .any base t cs:=by
   rcases hu with ⟨fs,hu⟩ | ⟨n,e,hu⟩ <;> rw [hu] at hv <;> exact hv
  obtain ⟨cs,rfl,_⟩:=hv'
  obtain ⟨y,h1,h2⟩:=ziK hC T t fuel _ _ hf (fun e=>absurd e hn) (fun _=>hz) h
  exact ⟨y,⟨cs,h1,by rw [ha]; rfl⟩,h2⟩
 ·have hv':Cell.okWide P w .any base t v:=by
   cases hu:P.underlying t with
   | none=>rw [hu] at hv; exact hv
   | some D =>
    rw [hu] at hv
    cases D <;> first | exact hv | exact absurd hu (hu1 _) | exact absurd hu (hu2 _ _)
  have hcells:v.cells = #[v]:=by
   cases v <;> first | rfl | skip
   rename_i cs
   exfalso
   unfold Cell.okWide at hv'
   split at hv' <;> first
    | (rename_i e; cases e; done)
    | skip
   unfold Cell.ok at hv'
   split at hv' <;> first
    | (rename_i e; cases e; done)
    | (cases hv'; done)
    | skip
  rw [hcells] at h
  obtain ⟨y,h1,h2⟩:=ziK hC T t fuel _ _ hf (fun e=>absurd e hn) (fun _=>hz) h
  exact ⟨y,⟨#[v],h1,by rw [ha]; rfl⟩,h2⟩
theorem zkx (hC:CfgOK C P) {base:Nat}:∀ {ts:List TypeId} {Ts:List Ty} {vs:List Value} {ds:List (DataW H)} {p:List MemPlace},fitAll C ts Ts = true →
  (∀ (j:Nat) t v,ts[j]? = some t→vs[j]? = some v→Value.okWide P w .any base t v)→DataW.TrodAll enc P w 0 (fun _=>true) held ts vs ds p→∃ x,TVs (allFz w) Ts x vs∧tysOk Ts x
 | [],[],[],[],p,_,_,_=>⟨(),rfl,trivial⟩
 | t :: ts,T :: Ts,v :: vs,d :: ds,p,hf,hv,⟨p1,p2,h1,h2,_⟩=>by
  simp only [fitAll,sA,Bool.not_eq_true'] at hf
  have hn:T.size ≠ 0:=fun e=>by have:=hf.1.2.2; rw [e] at this; cases this
  obtain ⟨x,k1,k2⟩:=zo5 hC hf.1.1 (sB hf.1.2.1) hn (hv 0 t v rfl rfl) h1
  obtain ⟨y,k3,k4⟩:=zkx hC hf.2 (fun j t v e1 e2=>hv (j + 1) t v (by simpa using e1) (by simpa using e2)) h2
  exact ⟨(x,y),⟨k1,k3⟩,k2,k4⟩
 | [],_ :: _,_,_,_,hf,_,_=>by simp [fitAll] at hf
 | _ :: _,[],_,_,_,hf,_,_=>by simp [fitAll] at hf
 | [],[],_ :: _,_,_,_,_,h=>h.elim
 | [],[],[],_ :: _,_,_,_,h=>h.elim
 | _ :: _,_ :: _,[],_,_,_,_,h=>h.elim
 | _ :: _,_ :: _,_ :: _,[],_,_,_,h=>h.elim
theorem ziL {W W':World} (ho:W'.os = W.os) (hp:W'.output = W.output) (hb:∀ b,b < W.heap.size→W'.heap[b]? = W.heap[b]?) (may:MemPlace→Prop):W.keptBut W' may:=by
 refine ⟨ho,hp,fun i hi=>?_⟩
 rw [hb i hi]
 cases W.heap[i]? with
 | none=>rfl
 | some o=>cases o <;> first | rfl | exact ⟨rfl,rfl,rfl,fun _ _=>rfl⟩ | exact .inr ⟨rfl,rfl⟩
theorem ze8 (hl:laidOutB P = true) (hm:mapsRowed P = true) (hsz:∀ t e,t < P.types.size→P.underlying t = some (.slice e)→0 < P.cellsOf e) {W W':World} (hb:∀ b,b < W.heap.size→W'.heap[b]? = W.heap[b]?) :
  ∀ {ts:List TypeId} {vs:List Value} {ds:List (DataW H)} {p:List MemPlace},(∀ t∈ts,t < P.types.size)→DataW.TrodAll enc P W 0 (fun _=>true) true ts vs ds p→DataW.TrodAll enc P W' 0 (fun b=>decide (b < W.heap.size)) true ts vs ds p
 | [],[],[],p,_,h=>h
 | t :: ts,v :: vs,d :: ds,p,ht,⟨p1,p2,⟨n,h1⟩,h2,e⟩=>by
  have hlt:=DataW.trod_lt n _ _ _ h1
  refine ⟨p1,p2,⟨n,DataW.trod_stays (kids_rows hl hm) (fun a b=>hsz _ _ a b) (fun h=>by cases h) (ht t (by simp)) h1 (fun q hq=>?_) (fun q hq=>by simpa using hlt q hq)⟩,ze8 hl hm hsz hb (fun t h=>ht t (by simp [h])) h2,e⟩
  have:=hlt q hq
  cases q with
  | cell b off=>exact World.cell?_of_block (a:=⟨b,off,none⟩) (hb b this)
  | map b=>exact hb b this
 | [],[],_ :: _,_,_,h=>h.elim
 | [],_ :: _,_,_,_,h=>h.elim
 | _ :: _,[],_,_,_,h=>h.elim
 | _ :: _,_ :: _,[],_,_,h=>h.elim
theorem ziM (hC : CfgOK C P) (hl : laidOutB P = true) (hm : mapsRowed P = true) (hsz : ∀ t e, t < P.types.size → P.underlying t = some (.slice e) → 0 < P.cellsOf e)
    {f : FuncId} {fn : Func} {Ts : List Ty} {F : tysDen Ts → Option (tysDen [.bool])} (hp : zbh P C f { args := Ts, res := [.bool], fn := F }) (hlaw : ∀ x, tysOk Ts x → F x = some (true, ()))
    (hfit : fitAll C fn.params.toList Ts = true) (hpt : ∀ t ∈ fn.params.toList, t < P.types.size) {tb : TypeId} (hrt : fn.resultTypes = #[tb]) (htb : P.underlying tb = some .bool)
    {s : ChangeSpec} (hvars : s.vars = []) {apart fresh handsOn : Bool} {W : World} {base : Nat} {args : Array Value} {ds gs : List (DataW H)} {before : List MemPlace}
    (hs : s.fn H (ds ++ []) = { results := [.lit (.bool true)], args := ds, vars := [] })
    (hval : ∀ (j : Nat) t v, fn.params[j]? = some t → args[j]? = some v → Value.okWide P W .any base t v) (hW : DataW.Whole enc P fn.params.toList s.vars apart W args.toList ds gs before) (hG : zay C (allFz W)) :
    Calls P f args W fun e W' => ∃ v, e = .returned v ∧ s.post enc P fn apart fresh handsOn false W args v W' := by
  have hW0 := hW
  obtain ⟨p, q, hA, hV, rfl, _, _⟩ := hW0
  rw [hvars] at hV
  obtain ⟨rfl, rfl⟩ : gs = [] ∧ q = [] := by
    cases gs with
    | nil => exact ⟨rfl, hV⟩
    | cons g r => exact hV.elim
  obtain ⟨x, h1, h2⟩ := zkx hC hfit (fun j t v e1 e2 => hval j t v (by simpa using e1) (by simpa using e2)) hA
  have hx := hlaw x h2
  refine (hp (allFz W) W args x (true, ()) hG (znC W) h1 hx).mono ?_
  rintro e W' ⟨cs, fz', rfl, h3, _, ht⟩
  have hb : ∀ b, b < W.heap.size → W'.heap[b]? = W.heap[b]? := fun b hb => ht.block b hb (not_owned _ _)
  have hv : zdn cs = .bool true := by
    match cs, h3 with
    | [c], ⟨⟨arr, k1, k2⟩, _⟩ =>
      have k1' : arr.toList = [Value.bool true] := k1
      show c = _
      rw [k2]
      show arr.getD 0 undef = _
      rw [Array.getD_eq_getD_getElem?, ← Array.getElem?_toList, k1']
      rfl
    | _ :: _ :: _, ⟨_, h⟩ => cases h
    | [], h => exact h.elim
  rw [hv]
  refine ⟨_, rfl, ds, [], p ++ [], [], p, [], hW, ?_, ?_, ?_, ziL ht.os ht.output hb _, fun h => by cases h⟩
  · rw [hs, hrt]
    exact ChangeShapes.trodAll_mk1 (RowKit.shut_bool htb true)
  · rw [hs]
    exact ze8 hl hm hsz hb hpt hA
  · rw [hs, hvars]
    rfl
end
end Go.V
namespace Go.V
abbrev yI:Ty:=.int .i64
abbrev yV:Ty:=.pair yI (.pair yI .unit)
abbrev yD:Ty:=.pair yI (.pair yI (.pair yI (.pair .bool (.pair yI (.pair yI .unit)))))
abbrev yE:Ty:=.pair yI (.pair .str .unit)
abbrev yN:Ty:=.pair yI (.pair (.sl yI) .unit)
abbrev yR:Ty:=.pair yI (.pair yI (.pair .bool (.pair (.sl yI) (.pair .bool (.pair (.sl yI) .unit)))))
abbrev yG:Ty:=.pair (.sl yV) (.pair (.sl yD) (.pair (.sl yI) .unit))
abbrev yC:Ty:=.pair (.arr 8 (.sl yN)) .unit
abbrev Yv:=Int × Int × Unit
abbrev Yd:=Int × Int × Int × Bool × Int × Int × Unit
abbrev Ye:=Int × ByteArray × Unit
abbrev Yn:=Int × List Int × Unit
abbrev Yr:=Int × Int × Bool × List Int × Bool × List Int × Unit
abbrev Yc:=List (List Yn) × Unit
abbrev YI:Sh:=.ty yI
abbrev cP (n:Nat):Sh:=.cst (.ptr n 0 [])
theorem zT {p:Prop} [Decidable p] (h:p):decide p = true:=decide_eq_true h
theorem zF {p:Prop} [Decidable p] (h:¬ p):decide p = false:=decide_eq_false h
end Go.V
