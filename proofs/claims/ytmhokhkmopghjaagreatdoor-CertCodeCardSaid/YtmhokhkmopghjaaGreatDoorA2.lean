/- Part of the proof. -/
import Derived.ChangeKeysEq
import Derived.Test.YtmhokhkmopghjaaGreatDoorA1
set_option linter.all false
set_option linter.unusedVariables false
set_option linter.unusedSectionVars false
set_option linter.unusedSimpArgs false
namespace Go.V
variable [Codes]
structure ExtBut (b:Option Nat) (g g':Gh):Prop where
 fz:∀ k o v,g.fz k o = some v→g'.fz k o = some v
 bx:∀ k gb,some k ≠ b→g.bx k = some gb→g'.bx k = some gb
 row:∀ k gb,some k = b→g.bx k = some gb→gb.isRow = true
theorem ExtBut.refl (g:Gh):ExtBut none g g:=⟨fun _ _ _ h=>h,fun _ _ _ h=>h,fun _ _ h _=>nomatch h⟩
def AV.clear (b:Option Nat) (v:AV):Prop:=∀ k,b = some k→v.has k = false
theorem CapsR.ext {b:Option Nat} {g g':Gh} (hx:ExtBut b g g'):∀ {l:List AV} {vs:List Value},CapsR g l vs→CapsR g' l vs
 | [],[],h=>h
 | [],_ :: _,h=>h.elim
 | _ :: _,[],h=>h.elim
 | a :: l,v :: vs,⟨h1,h2⟩=>by
  refine ⟨?_,h2.ext hx⟩
  unfold CapR at h1 ⊢
  split at h1
  ·obtain ⟨gb,blk,e1,e2,e3⟩:=h1
   refine ⟨gb,blk,hx.bx _ _ (fun e=>?_) e1,e2,e3⟩
   have:=hx.row _ _ e e1
   rw [this] at e2
   exact absurd e2 (by decide)
  ·obtain ⟨gb,blk,e1,e2,e3⟩:=h1
   refine ⟨gb,blk,hx.bx _ _ (fun e=>?_) e1,e2,e3⟩
   have:=hx.row _ _ e e1
   rw [this] at e2
   exact absurd e2 (by decide)
  ·exact h1
  ·exact h1.elim
theorem GR.ext {b:Option Nat} {g g':Gh} (hx:ExtBut b g g') {v:AV} {cs:List Value} (h:GR g v cs) (hv:v.clear b):GR g' v cs:=by
 have kp:∀ k gb,g.bx k = some gb→gb.isRow = false→g'.bx k = some gb:=fun k gb e1 e2=>hx.bx k gb (fun e=>by
  have:=hx.row _ _ e e1
  rw [this] at e2
  exact absurd e2 (by decide)) e1
 cases v <;> simp only [GR] at h ⊢
 case val T x=>exact h.mono hx.fz
 case full T l =>
  rcases h with h | ⟨blk,off,cs',e,h1,h2⟩
  ·exact .inl h
  ·exact .inr ⟨blk,off,cs',e,h1.mono (fun x cs h=>h.mono hx.fz),h2.mono hx.fz⟩
 case nn T l =>
  rcases h with h | ⟨blk,off,cap,cs',e,h0,h1,h2⟩
  ·exact .inl h
  ·exact .inr ⟨blk,off,cap,cs',e,h0,h1.mono (fun x cs h=>h.mono hx.fz),h2.mono hx.fz⟩
 case ptr=>obtain ⟨gb,blk,e1,e2,r⟩:=h; exact ⟨gb,blk,kp _ _ e1 e2,e2,r⟩
 case rptr k i o =>
  obtain ⟨gb,blk,e1,r⟩:=h
  refine ⟨gb,blk,hx.bx _ _ (fun e=>?_) e1,r⟩
  have:=hv k e.symm
  simp [AV.has] at this
 case eptr=>obtain ⟨blk,off,cs',e,h1,h2⟩:=h; exact ⟨blk,off,cs',e,h1.mono hx.fz,h2.mono hx.fz⟩
 case row k w =>
  obtain ⟨gb,v,e1,r⟩:=h
  refine ⟨gb,v,hx.bx _ _ (fun e=>?_) e1,r⟩
  have:=hv k e.symm
  simp [AV.has] at this
 case vsl=>obtain ⟨gb,blk,cap,e1,e2,r⟩:=h; exact ⟨gb,blk,cap,kp _ _ e1 e2,e2,r⟩
 case fn=>obtain ⟨vs,e,h⟩:=h; exact ⟨vs,e,h.ext hx⟩
 case mfn=>obtain ⟨vs,e,h⟩:=h; exact ⟨vs,e,h.ext hx⟩
 case yld=>obtain ⟨gb,l,e1,e2,r⟩:=h; exact ⟨gb,l,kp _ _ e1 e2,e2,r⟩
 case mp=>obtain ⟨gb,l,e1,e2,r⟩:=h; exact ⟨gb,l,kp _ _ e1 e2,e2,r⟩
 all_goals exact h
def zhn (b:Option Nat) (gs:List AV):Prop:=∀ k,b = some k→hasL k gs = false
theorem GsR.ext {b:Option Nat} {g g':Gh} (hx:ExtBut b g g'):∀ {gs:List AV} {cs:List Value},GsR g gs cs→zhn b gs→GsR g' gs cs
 | [],_,h,_=>h
 | v :: gs,_,⟨c1,c2,e,h1,h2⟩,hc=>by
  refine ⟨c1,c2,e,h1.ext hx (fun k hk=>?_),h2.ext hx (fun k hk=>?_)⟩ <;> have:=hc k hk <;> simp [hasL] at this
  ·exact this.1
  ·exact this.2
theorem VR1.ext {b:Option Nat} {g g':Gh} (hx:ExtBut b g g') {v:AV} {c:Value} (h:VR1 g v c) (hv:v.clear b):VR1 g' v c:=by
 by_cases hs:v.single = true
 ·exact (zbR hs).2 (((zbR hs).1 h).ext hx hv)
 ·cases v <;> simp only [AV.single,not_true] at hs <;> try exact h
  case val T x =>
   cases T <;> simp only [not_true] at hs
   case arr n T=>obtain ⟨arr,e,h⟩:=h; exact ⟨arr,e,h.mono hx.fz⟩
   all_goals exact h
  case agg gs =>
   obtain ⟨arr,e,h⟩:=h
   exact ⟨arr,e,h.ext hx (fun k hk=>by have:=hv k hk; simpa [AV.has] using this)⟩
theorem TsR.ext {b:Option Nat} {g g':Gh} (hx:ExtBut b g g'):∀ {l:List AV} {vs:List Value},TsR g l vs→zhn b l→TsR g' l vs
 | [],[],h,_=>h
 | [],_ :: _,h,_=>h.elim
 | _ :: _,[],h,_=>h.elim
 | a :: l,v :: vs,⟨h1,h2⟩,hc=>by
  refine ⟨h1.ext hx (fun k hk=>?_),h2.ext hx (fun k hk=>?_)⟩ <;> have:=hc k hk <;> simp [hasL] at this
  ·exact this.1
  ·exact this.2
theorem VR.ext {b:Option Nat} {g g':Gh} (hx:ExtBut b g g') {v:AV} {c:Value} (h:VR g v c) (hv:v.clear b):VR g' v c:=by
 cases v
 case tup vs =>
  obtain ⟨arr,e,h⟩:=h
  exact ⟨arr,e,h.ext hx (fun k hk=>by have:=hv k hk; simpa [AV.has] using this)⟩
 all_goals exact VR1.ext (c:=c) hx (by exact h) hv
theorem zeL (v:AV):v.clear none:=fun _ h=>nomatch h
theorem zdl (v:List AV):zhn none v:=fun _ h=>nomatch h
theorem VR.grow {g g':Gh} (hx:ExtBut none g g') {v:AV} {c:Value} (h:VR g v c):VR g' v c:=h.ext hx (zeL v)
theorem GsR.grow {g g':Gh} (hx:ExtBut none g g') {v:List AV} {c:List Value} (h:GsR g v c):GsR g' v c:=h.ext hx (zdl v)
theorem EnvR.grow {g g':Gh} (hx:ExtBut none g g') {env:Env} {tm:Array Value} (h:EnvR g env tm):EnvR g' env tm:=fun n v e=>(h n v e).grow hx
theorem StkR.grow {g g':Gh} (hx:ExtBut none g g'):∀ {l:List Env} {ts:List (Array Value)},StkR g l ts→StkR g' l ts
 | [],[],h=>h
 | [],_ :: _,h=>h.elim
 | _ :: _,[],h=>h.elim
 | _ :: _,_ :: _,⟨h1,h2⟩=>⟨h1.grow hx,h2.grow hx⟩
theorem zfF (k:Nat):∀ (env:Env) (n:Nat),find (zdc k env) n = (find env n).map (·.stale k)
 | [],_=>rfl
 | (m,v) :: l,n=>by
  simp only [zdc,find]
  cases Nat.beq m n
  ·simp [zfF k l n]
  ·simp
theorem VR.stale {g g':Gh} {b:Nat} (hx:ExtBut (some b) g g') {v:AV} {c:Value} (h:VR g v c):VR g' (v.stale b) c:=by
 unfold AV.stale
 cases hb:v.has b
 ·exact h.ext hx (fun k hk=>by cases hk; exact hb)
 ·exact trivial
theorem EnvR.stale {g g':Gh} {b:Nat} (hx:ExtBut (some b) g g') {env:Env} {tm:Array Value} (h:EnvR g env tm):EnvR g' (zdc b env) tm:=by
 intro n v e
 rw [zfF] at e
 cases hf:find env n with
 | none=>rw [hf] at e; cases e
 | some u=>rw [hf] at e; cases e; exact (h n u hf).stale hx
theorem StkR.stale {g g':Gh} {b:Nat} (hx:ExtBut (some b) g g'):∀ {l:List Env} {ts:List (Array Value)},StkR g l ts→StkR g' (zgo b l) ts
 | [],[],h=>h
 | [],_ :: _,h=>h.elim
 | _ :: _,[],h=>h.elim
 | _ :: _,_ :: _,⟨h1,h2⟩=>⟨h1.stale hx,h2.stale hx⟩
theorem GR.stale {g g':Gh} {b:Nat} (hx:ExtBut (some b) g g') {v:AV} {cs:List Value} (h:GR g v cs):GR g' (v.stale b) cs:=by
 unfold AV.stale
 cases hb:v.has b
 ·exact h.ext hx (fun k hk=>by cases hk; exact hb)
 ·have h1:=h.one
  have hl:=h.length
  have hs:v.size = 1:=by cases v <;> simp [AV.has] at hb <;> rfl
  rw [hs] at hl
  match cs,hl with
  | [c],_=>exact ⟨c,rfl,h1 c (by simp)⟩
theorem GsR.stale {g g':Gh} {b:Nat} (hx:ExtBut (some b) g g'):∀ {gs:List AV} {cs:List Value},GsR g gs cs→GsR g' (zjM b gs) cs
 | [],_,h=>h
 | _ :: _,_,⟨c1,c2,e,h1,h2⟩=>⟨c1,c2,e,h1.stale hx,h2.stale hx⟩
theorem zb6 {a b:Nat} (h:a ≠ b):Nat.beq a b = false:=by
 cases e:Nat.beq a b
 ·rfl
 ·exact absurd (sB e) h
theorem zad {α:Type} (l:List (Nat × α)) (k:Nat) (v:α):find ((k,v) :: l) k = some v:=by simp [find]
theorem zab {α:Type} (l:List (Nat × α)) {k n:Nat} (v:α) (h:k ≠ n):find ((k,v) :: l) n = find l n:=by simp [find,zb6 h]
theorem zaF:∀ (l:Bxs) (k:Nat) (b:Box),find (setB l k b) k = some b
 | [],k,b=>zad _ _ _
 | (j,c) :: l,k,b=>by
  simp only [setB]
  by_cases h:j = k
  ·subst h; simp [find]
  ·simp only [zb6 h,cond_false]
   rw [zab _ _ h]
   exact zaF l k b
theorem zav:∀ (l:Bxs) {k n:Nat} (b:Box),k ≠ n→find (setB l k b) n = find l n
 | [],k,n,b,h=>by simp [setB,find,zb6 h]
 | (j,c) :: l,k,n,b,h=>by
  simp only [setB]
  by_cases hj:j = k
  ·subst hj
   simp only [Nat.beq_refl,cond_true]
   rw [zab _ _ h,zab _ _ h]
  ·simp only [zb6 hj,cond_false]
   by_cases hn:j = n
   ·subst hn; rw [zad,zad]
   ·rw [zab _ _ hn,zab _ _ hn]
    exact zav l b h
def Box.stale (k:Nat):Box→Box
 | .var gs=>.var (zjM k gs)
 | .loop u f i env=>.loop u f i (zdc k env)
 | b=>b
theorem za2 (k:Nat):∀ (l:Bxs) (n:Nat),find (zcm k l) n = (find l n).map (Box.stale k)
 | [],_=>rfl
 | (m,.var gs) :: l,n=>by
  simp only [zcm,find]
  cases Nat.beq m n
  ·simp [za2 k l n]
  ·simp [Box.stale]
 | (m,.row T fz x) :: l,n=>by
  simp only [zcm,find]
  cases Nat.beq m n
  ·simp [za2 k l n]
  ·simp [Box.stale]
 | (m,.loop u f i env) :: l,n=>by
  simp only [zcm,find]
  cases Nat.beq m n
  ·simp [za2 k l n]
  ·simp [Box.stale]
 | (m,.map K V x) :: l,n=>by
  simp only [zcm,find]
  cases Nat.beq m n
  ·simp [za2 k l n]
  ·simp [Box.stale]
 | (m,.dead) :: l,n=>by
  simp only [zcm,find]
  cases Nat.beq m n
  ·simp [za2 k l n]
  ·simp [Box.stale]
 | (m,.fmap K V x) :: l,n=>by
  simp only [zcm,find]
  cases Nat.beq m n
  ·simp [za2 k l n]
  ·simp [Box.stale]
 | (m,.iter K V x c) :: l,n=>by
  simp only [zcm,find]
  cases Nat.beq m n
  ·simp [za2 k l n]
  ·simp [Box.stale]
theorem BlkIs.lt {w:World} {blk:Nat} {cells:List Value} (h:BlkIs w blk cells):blk < w.heap.size:=by
 obtain ⟨e,lo,hi,h,_⟩:=h
 exact (Array.getElem?_eq_some_iff.1 h).1
theorem BlkIs.same {w w':World} {blk:Nat} {cells:List Value} (h:BlkIs w blk cells) (he:w'.heap[blk]? = w.heap[blk]?):BlkIs w' blk cells:=by
 obtain ⟨e,lo,hi,h1,h2⟩:=h
 exact ⟨e,lo,hi,he.trans h1,h2⟩
theorem BlkIs.cell {w:World} {blk:Nat} {cells:List Value} (h:BlkIs w blk cells) (o:Nat):w.cell? ⟨blk,o,none⟩ = cells[o]?:=by
 obtain ⟨e,lo,hi,h1,h2⟩:=h
 simp [World.cell?,h1]
theorem BlkIs.frozen {w:World} {blk:Nat} {cells:List Value} (h:BlkIs w blk cells) {o:Nat} (ho:o < cells.length):w.frozen? ⟨blk,o,none⟩ = false:=by
 obtain ⟨e,lo,hi,h1,h2⟩:=h
 have:=h2 o ho
 simp only [World.frozen?,h1]
 cases hd:(decide (lo≤o) && decide (o < hi))
 ·rfl
 ·simp at hd
  exact absurd hd this
theorem zbC (w:World) (cs:List Value) (e:TypeId):BlkIs (w.alloc (.cells cs.toArray e)) w.heap.size cs :=
 ⟨e,0,0,heap_alloc_new w _,fun _ _ h=>absurd h.2 (by omega)⟩
theorem BxR.lt {g:Gh} {bxs:Bxs} {w:World} (h:BxR g bxs w) {blk:Nat} (ho:owned g blk):blk < w.heap.size:=by
 obtain ⟨k,gb,e1,e2,e3⟩:=ho
 obtain ⟨b,hb⟩:=Option.isSome_iff_exists.1 (h.dom k gb e1)
 obtain ⟨gb',e4,hr⟩:=h.box k b hb
 rw [e1] at e4
 cases e4
 cases b with
 | var gs =>
  obtain ⟨_,_,blk',cells,e5,e6,_⟩:=hr
  rw [e2] at e5
  cases e5
  exact e6.lt
 | row T fz l =>
  obtain ⟨_,_,_,_,hr⟩:=hr
  simp only [e2,e3] at hr
  obtain ⟨cells,cs,e6,_⟩:=hr
  exact e6.lt
 | loop u f i env =>
  obtain ⟨_,_,l,_,_,_,_,e5,_,e6,_⟩:=hr
  rw [e2] at e5
  cases e5
  exact (Array.getElem?_eq_some_iff.1 e6).1
 | map K V l =>
  obtain ⟨_,_,r,es,ck,e5,e6,_⟩:=hr
  rw [e2] at e5
  cases e5
  exact (Array.getElem?_eq_some_iff.1 e6).1
 | fmap K V l =>
  obtain ⟨_,_,r,es,ck,e5,e6,_⟩:=hr
  rw [e2] at e5
  cases e5
  exact (Array.getElem?_eq_some_iff.1 e6).1
 | iter K V l c =>
  obtain ⟨_,_,r,m,es,ck,si,se,la,e5,e6,_⟩:=hr
  rw [e2] at e5
  cases e5
  exact (Array.getElem?_eq_some_iff.1 e6).1
 | dead =>
  obtain ⟨_,_,l,_,e5,e6,_⟩:=hr
  rw [e2] at e5
  cases e5
  exact (Array.getElem?_eq_some_iff.1 e6).1
theorem Keeps.lt {w:World} {b o:Nat} {v:Value} (h:Keeps w b o v):b < w.heap.size:=by
 cases hv:isTup v with
 | false=>exact World.block_lt_of_cell? w _ (h.1 hv)
 | true =>
  obtain ⟨es,ck,_,e⟩:=h.2 hv
  exact (Array.getElem?_eq_some_iff.1 e).1
theorem Keeps.same {w w':World} {b o:Nat} {v:Value} (h:Keeps w b o v) (he:w'.heap[b]? = w.heap[b]?):Keeps w' b o v :=
 ⟨fun hv=>(World.cell?_of_block he).trans (h.1 hv),fun hv=>by
  obtain ⟨es,ck,e1,e2⟩:=h.2 hv
  exact ⟨es,ck,e1,he.trans e2⟩⟩
theorem zfG {v:Value} (h:v.oneCell' = true):isTup v = false:=by
 cases v <;> first | rfl | (simp [Value.oneCell'] at h)
theorem Keeps.cell {w:World} {b o:Nat} {v:Value} (h:Keeps w b o v) (hv:v.oneCell' = true):w.cell? ⟨b,o,none⟩ = some v:=h.1 (zfG hv)
theorem zdA {w:World} {b o:Nat} {v:Value} (h:w.cell? ⟨b,o,none⟩ = some v) (hv:v.oneCell' = true):Keeps w b o v :=
 ⟨fun _=>h,fun ht=>by rw [zfG hv] at ht; cases ht⟩
theorem FzOK.lt {g:Gh} {w:World} (h:FzOK g w) {b o:Nat} (hf:g.fz b o ≠ none):b < w.heap.size:=by
 cases e:g.fz b o with
 | none=>exact (hf e).elim
 | some v=>exact (h b o v e).lt
def zka (x:Option Nat) (b:Box):Prop :=
 match b with
 | .var gs=>zhn x gs
 | .loop _ _ _ env=>∀ n v,find env n = some v→v.clear x
 | _=>True
theorem zaK (b:Box):zka none b:=by
 cases b <;> first | trivial | exact zdl _ | exact fun _ v _=>zeL v
theorem TV.mono {fz fz':Nat→Nat→Option Value} (hf:∀ b o v,fz b o = some v→fz' b o = some v) {T:Ty} {x:T.den} {c:Value} (h:TV fz T x c):TV fz' T x c:=by
 obtain ⟨arr,h1,h2⟩:=h
 exact ⟨arr,h1.mono hf,h2⟩
theorem EntR.mono {fz fz':Nat→Nat→Option Value} (hf:∀ b o v,fz b o = some v→fz' b o = some v) {K V:Ty}:∀ {l:List (K.den × V.den)} {es:List MapEntry},EntR fz K V l es→EntR fz' K V l es
 | [],[],h=>h
 | _ :: _,_ :: _,⟨h1,h2,h3⟩=>⟨h1.mono hf,h2.mono hf,h3.mono hf⟩
 | [],_ :: _,h=>h.elim
 | _ :: _,[],h=>h.elim
theorem BoxR.ext {x:Option Nat} {g g':Gh} (hx:ExtBut x g g') {b:Box} {gb:Gb} {w w':World} (h:BoxR g b gb w)
  (hw:∀ blk,gb.blk = some blk→gb.own = true→w'.heap[blk]? = w.heap[blk]?)
  (hf:∀ blk,gb.blk = some blk→gb.own = true→∀ o,g.fz blk o = none→g'.fz blk o = none)
  (hc:zka x b):BoxR g' b gb w':=by
 cases b with
 | var gs =>
  obtain ⟨h1,h2,blk,cells,h3,h4,h5,h6⟩:=h
  exact ⟨h1,h2,blk,cells,h3,h4.same (hw blk h3 h2),h5.ext hx hc,fun o=>hf blk h3 h2 o (h6 o)⟩
 | row T fz l =>
  obtain ⟨h1,h2,h3,h4,h5⟩:=h
  refine ⟨h1,h2,h3,h4,?_⟩
  cases hb:gb.blk with
  | none=>simp only [hb] at h5 ⊢; exact h5
  | some blk =>
   cases ho:gb.own with
   | false =>
    simp only [hb,ho] at h5 ⊢
    obtain ⟨k1,k2,cs,k3,k4⟩:=h5
    exact ⟨k1,k2,cs,k3.mono (fun x cs h=>h.mono hx.fz),k4.mono hx.fz⟩
   | true =>
    simp only [hb,ho] at h5 ⊢
    obtain ⟨cells,cs,k1,k2,k3,k4,k5,k6⟩:=h5
    exact ⟨cells,cs,k1.same (hw blk hb ho),k2,k3.mono (fun x cs h=>h.mono hx.fz),k4,fun e o=>hf blk hb ho o (k5 e o),
     fun e=>⟨(k6 e).1.mono hx.fz,fun o h=>hf blk hb ho o ((k6 e).2 o h)⟩⟩
 | loop u f i env =>
  obtain ⟨h1,h2,l,tm,D,fn,cd,h3,h7,h4,h5,h6⟩:=h
  exact ⟨h1,h2,l,tm,D,fn,cd,h3,h7,(hw l h3 h2).trans h4,fun n v e=>(h5 n v e).ext hx (hc n v e),h6.1,fun o=>hf l h3 h2 o (h6.2 o)⟩
 | map K V l =>
  obtain ⟨h1,h2,r,es,ck,h3,h4,h5,h6⟩:=h
  exact ⟨h1,h2,r,es,ck,h3,(hw r h3 h2).trans h4,h5.mono hx.fz,h6.1,fun o=>hf r h3 h2 o (h6.2 o)⟩
 | fmap K V l =>
  obtain ⟨h1,h2,r,es,ck,h3,h4,h5,h6⟩:=h
  exact ⟨h1,h2,r,es,ck,h3,(hw r h3 h2).trans h4,h5.mono hx.fz,h6.1,hx.fz _ _ _ h6.2⟩
 | iter K V l c =>
  obtain ⟨h1,h2,r,m,es,ck,si,se,la,h3,h4,h5,h6,h7,h8⟩:=h
  refine ⟨h1,h2,r,m,es,ck,si,se,la,h3,(hw r h3 h2).trans h4,hx.fz _ _ _ h5,⟨h6.1,h6.2.1,h6.2.2.1,h6.2.2.2.1,fun c hc=>?_⟩,h7.mono hx.fz,fun o=>hf r h3 h2 o (h8 o)⟩
  obtain ⟨k1,e,he,sn,k2,k3,k4⟩:=h6.2.2.2.2 c hc
  exact ⟨k1,e,he,sn,k2,k3.mono hx.fz,k4.mono hx.fz⟩
 | dead =>
  obtain ⟨h1,h2,l,o,h3,h4,h6⟩:=h
  exact ⟨h1,h2,l,o,h3,(hw l h3 h2).trans h4,fun o=>hf l h3 h2 o (h6 o)⟩
theorem BoxR.extStale {x:Nat} {g g':Gh} (hx:ExtBut (some x) g g') {b:Box} {gb:Gb} {w w':World} (h:BoxR g b gb w)
  (hw:∀ blk,gb.blk = some blk→gb.own = true→w'.heap[blk]? = w.heap[blk]?)
  (hf:∀ blk,gb.blk = some blk→gb.own = true→∀ o,g.fz blk o = none→g'.fz blk o = none):BoxR g' (b.stale x) gb w':=by
 cases b with
 | var gs =>
  obtain ⟨h1,h2,blk,cells,h3,h4,h5,h6⟩:=h
  exact ⟨h1,h2,blk,cells,h3,h4.same (hw blk h3 h2),h5.stale hx,fun o=>hf blk h3 h2 o (h6 o)⟩
 | row T fz l=>exact h.ext hx hw hf trivial
 | loop u f i env =>
  obtain ⟨h1,h2,l,tm,D,fn,cd,h3,h7,h4,h5,h6⟩:=h
  have he:EnvR g' (zdc x env) tm:=EnvR.stale hx h5
  exact ⟨h1,h2,l,tm,D,fn,cd,h3,h7,(hw l h3 h2).trans h4,he,h6.1,fun o=>hf l h3 h2 o (h6.2 o)⟩
 | map K V l=>exact h.ext hx hw hf trivial
 | fmap K V l=>exact h.ext hx hw hf trivial
 | iter K V l c=>exact h.ext hx hw hf trivial
 | dead=>exact h.ext hx hw hf trivial
theorem FzOK.grow {g:Gh} {w w':World} (h:FzOK g w) (hb:∀ b,b < w.heap.size→w'.heap[b]? = w.heap[b]?):FzOK g w':=fun b o v e=>by
 have h1:=h b o v e
 exact h1.same (hb b h1.lt)
theorem BxR.grow {g:Gh} {bxs:Bxs} {w w':World} (h:BxR g bxs w) (hb:∀ b,b < w.heap.size→w'.heap[b]? = w.heap[b]?):BxR g bxs w' where
 box:=fun k b e=>by
  obtain ⟨gb,h1,h2⟩:=h.box k b e
  refine ⟨gb,h1,h2.ext (ExtBut.refl g) (fun blk e1 e2=>hb blk (h.lt ⟨k,gb,h1,e1,e2⟩)) (fun _ _ _ _ h=>h) ?_⟩
  exact zaK _
 dom:=h.dom
 sep:=h.sep
theorem StR.grow {g:Gh} {s:St} {tm:Array Value} {tms:List (Array Value)} {w w':World} (h:StR g s tm tms w) (hb:∀ b,b < w.heap.size→w'.heap[b]? = w.heap[b]?):StR g s tm tms w' :=
 ⟨h.env,h.stk,h.bxs.grow hb,h.fz.grow hb⟩
theorem Tr.grow {g:Gh} {w w':World} (h:w.grownBy w' none):Tr g w g w' :=
 ⟨h.os,h.tape,h.output,h.size,fun _ _ _ h=>h,fun _ _ h=>.inl h,fun _ h=>.inl h,fun b hb _=>h.block b hb (by simp)⟩
end Go.V
namespace Go.V
variable [Codes]
def Gh.put (g:Gh) (k:Nat) (gb:Gb):Gh:={ fz:=g.fz,bx:=fun j=>if j = k then some gb else g.bx j }
theorem Gh.put_same (g:Gh) (k:Nat) (gb:Gb):(g.put k gb).bx k = some gb:=by simp [Gh.put]
theorem Gh.put_other (g:Gh) {k j:Nat} (gb:Gb) (h:j ≠ k):(g.put k gb).bx j = g.bx j:=by simp [Gh.put,h]
theorem BxR.none {g:Gh} {bxs:Bxs} {w:World} (h:BxR g bxs w) {k:Nat} (hk:find bxs k = none):g.bx k = none:=by
 cases e:g.bx k with
 | none=>rfl
 | some gb=>have:=h.dom k gb e; rw [hk] at this; cases this
theorem zeM {g:Gh} {k:Nat} (gb:Gb) (hk:g.bx k = none):ExtBut none g (g.put k gb) :=
 ⟨fun _ _ _ h=>h,fun j gb' _ h=>by
  by_cases e:j = k
  ·subst e; rw [hk] at h; cases h
  ·rw [Gh.put_other _ _ e]; exact h,fun _ _ h _=>nomatch h⟩
theorem StR.add {g:Gh} {s:St} {tm:Array Value} {tms:List (Array Value)} {w w':World} (h:StR g s tm tms w) {key:Nat} (hk:find s.bxs key = none)
  (hw:w.grownBy w' none) (b:Box) (gb:Gb) (hb:BoxR (g.put key gb) b gb w') (ho:∀ blk,gb.blk = some blk→gb.own = true→w.heap.size≤blk) :
  StR (g.put key gb) ((Eff.add key b).apply s) tm tms w'∧Tr g w (g.put key gb) w'∧ExtBut none g (g.put key gb):=by
 have hn:=h.bxs.none hk
 have hx:=zeM gb hn
 have hh:∀ b,b < w.heap.size→w'.heap[b]? = w.heap[b]?:=fun b hb=>hw.block b hb (by simp)
 have hg:=h.grow hh
 refine ⟨⟨hg.env.grow hx,hg.stk.grow hx,⟨?_,?_,?_⟩,fun b o v e=>hg.fz b o v e⟩,⟨hw.os,hw.tape,hw.output,hw.size,fun _ _ _ h=>h,fun _ _ h=>.inl h,?_,fun b h1 _=>hh b h1⟩,hx⟩
 ·intro k b' e
  simp only [Eff.apply] at e
  by_cases hkk:key = k
  ·subst hkk
   rw [zad] at e
   cases e
   exact ⟨gb,Gh.put_same _ _ _,hb⟩
  ·rw [zab _ _ hkk] at e
   obtain ⟨gb',e1,e2⟩:=hg.bxs.box k b' e
   refine ⟨gb',by rw [Gh.put_other _ _ (Ne.symm hkk)]; exact e1,e2.ext hx (fun _ _ _=>rfl) (fun _ _ _ _ h=>h) ?_⟩
   exact zaK _
 ·intro k gb' e
  simp only [Eff.apply]
  by_cases hkk:key = k
  ·subst hkk; rw [zad]; rfl
  ·rw [Gh.put_other _ _ (Ne.symm hkk)] at e
   rw [zab _ _ hkk]
   exact h.bxs.dom k gb' e
 ·have hlt:∀ k a blk,g.bx k = some a→a.blk = some blk→a.own = true→blk < w.heap.size:=fun k a blk e1 e2 e3=>h.bxs.lt ⟨k,a,e1,e2,e3⟩
  intro k j a b' blk hne e1 e2 a1 a2 b1 b2
  by_cases hk1:k = key
  ·subst hk1
   rw [Gh.put_same] at e1
   cases e1
   rw [Gh.put_other _ _ (Ne.symm hne)] at e2
   have:=ho blk a1 a2
   have:=hlt j b' blk e2 b1 b2
   omega
  ·rw [Gh.put_other _ _ hk1] at e1
   by_cases hj:j = key
   ·subst hj
    rw [Gh.put_same] at e2
    cases e2
    have:=ho blk b1 b2
    have:=hlt k a blk e1 a1 a2
    omega
   ·rw [Gh.put_other _ _ hj] at e2
    exact h.bxs.sep k j a b' blk hne e1 e2 a1 a2 b1 b2
 ·rintro b' ⟨k,a,e1,e2,e3⟩
  by_cases hk1:k = key
  ·subst hk1
   rw [Gh.put_same] at e1
   cases e1
   exact .inr (ho b' e2 e3)
  ·rw [Gh.put_other _ _ hk1] at e1
   exact .inl ⟨k,a,e1,e2,e3⟩
def Gh.freeze (g:Gh) (blk:Nat) (cs:List Value):Gh:={ fz:=fun b o=>if b = blk then cs[o]? else g.fz b o,bx:=g.bx }
theorem zcy (w:World) (o:Obj):w.grownBy (w.drew.alloc o) none :=
 ⟨rfl,rfl,rfl,by simp,fun k hk _=>by show (w.heap.push o)[k]? = w.heap[k]?; rw [Array.getElem?_push,if_neg (by omega)]⟩
theorem StR.lit {g:Gh} {s:St} {tm:Array Value} {tms:List (Array Value)} {w:World} (h:StR g s tm tms w) (cs:List Value) (hone:∀ v∈cs,v.oneCell' = true) (e:TypeId) :
  let w':=w.alloc (.cells cs.toArray e)
  let g':=g.freeze w.heap.size cs
  StR g' s tm tms w'∧Tr g w g' w'∧ExtBut none g g'∧Fz g'.fz w.heap.size 0 cs:=by
 intro w' g'
 have hnf:∀ o,g.fz w.heap.size o = none:=fun o=>by
  cases e:g.fz w.heap.size o with
  | none=>rfl
  | some v=>have:=h.fz.lt (b:=w.heap.size) (o:=o) (by rw [e]; simp); omega
 have hx:ExtBut none g g':=⟨fun k o v e=>by
   show (if k = w.heap.size then cs[o]? else g.fz k o) = some v
   by_cases hk:k = w.heap.size
   ·subst hk; rw [hnf] at e; cases e
   ·rw [if_neg hk]; exact e,fun _ _ _ h=>h,fun _ _ h _=>nomatch h⟩
 have hgr:w.grownBy w' none:=World.grownBy_alloc w _ none
 have hh:∀ b,b < w.heap.size→w'.heap[b]? = w.heap[b]?:=fun b hb=>hgr.block b hb (by simp)
 have hg:=h.grow hh
 refine ⟨⟨hg.env.grow hx,hg.stk.grow hx,⟨?_,fun k gb e=>h.bxs.dom k gb e,fun k j a b blk hne e1 e2=>h.bxs.sep k j a b blk hne e1 e2⟩,?_⟩,
  ⟨hgr.os,hgr.tape,hgr.output,hgr.size,hx.fz,?_,fun b ⟨k,gb,e1,e2⟩=>.inl ⟨k,gb,e1,e2⟩,fun b hb _=>hh b hb⟩,hx,?_⟩
 ·intro k b e1
  obtain ⟨gb,e2,e3⟩:=hg.bxs.box k b e1
  refine ⟨gb,e2,e3.ext hx (fun _ _ _=>rfl) (fun blk k1 k2 o k3=>?_) ?_⟩
  ·have hlt:=h.bxs.lt ⟨k,gb,e2,k1,k2⟩
   show (if blk = w.heap.size then cs[o]? else g.fz blk o) = none
   rw [if_neg (by omega)]
   exact k3
  ·exact zaK _
 ·intro b o v e1
  have e1':(if b = w.heap.size then cs[o]? else g.fz b o) = some v:=e1
  by_cases hb:b = w.heap.size
  ·subst hb
   rw [if_pos rfl] at e1'
   exact zdA (by rw [(zbC w cs e).cell o]; exact e1') (hone v (List.mem_of_getElem? e1'))
  ·rw [if_neg hb] at e1'
   exact hg.fz b o v e1'
 ·intro b o e1
  have e1':(if b = w.heap.size then cs[o]? else g.fz b o) ≠ none:=e1
  by_cases hb:b = w.heap.size
  ·exact .inr (.inl (by omega))
  ·rw [if_neg hb] at e1'
   exact .inl e1'
 ·intro j v e1
  show (if w.heap.size = w.heap.size then cs[0 + j]? else g.fz w.heap.size (0 + j)) = some v
  rw [if_pos rfl,Nat.zero_add]
  exact e1
theorem StR.upd {g : Gh} {s : St} {tm : Array Value} {tms : List (Array Value)} {w w' : World} (h : StR g s tm tms w) {k : Nat}
    {gb : Gb} (hg : g.bx k = some gb) {blk : Nat} (hb : gb.blk = some blk) (ho : gb.own = true) (hf : ∀ o, g.fz blk o = none)
    (os : w'.os = w.os) (tape : w'.tape = w.tape) (output : w'.output = w.output) (size : w.heap.size ≤ w'.heap.size) (hw : ∀ b, b ≠ blk → b < w.heap.size → w'.heap[b]? = w.heap[b]?)
    (b1 : Box) (hb1 : BoxR g b1 gb w') : StR g ((Eff.upd k b1).apply s) tm tms w' ∧ Tr g w g w' := by
  refine ⟨⟨h.env, h.stk, ⟨?_, ?_, h.bxs.sep⟩, ?_⟩, ⟨os, tape, output, size, fun _ _ _ h => h, fun _ _ h => .inl h, fun _ h => .inl h, fun b h1 h2 => hw b (fun e => ?_) h1⟩⟩
  · intro j b e
    simp only [Eff.apply] at e
    by_cases hj : k = j
    · subst hj
      rw [zaF] at e
      cases e
      exact ⟨gb, hg, hb1⟩
    · rw [zav _ _ hj] at e
      obtain ⟨gb', e1, e2⟩ := h.bxs.box j b e
      refine ⟨gb', e1, e2.ext (ExtBut.refl g) (fun blk' k1 k2 => hw blk' (fun e => ?_) (h.bxs.lt ⟨j, gb', e1, k1, k2⟩)) (fun _ _ _ _ h => h) ?_⟩
      · subst e
        exact h.bxs.sep k j gb gb' blk' hj hg e1 hb ho k1 k2
      · exact zaK _
  · intro j gb' e
    simp only [Eff.apply]
    by_cases hj : k = j
    · subst hj; rw [zaF]; rfl
    · rw [zav _ _ hj]; exact h.bxs.dom j gb' e
  · intro b o v e
    by_cases hbb : b = blk
    · subst hbb; rw [hf] at e; cases e
    · have h1 := h.fz b o v e
      exact h1.same (hw b hbb h1.lt)
  · subst e
    exact h2 ⟨k, gb, hg, hb, ho⟩
theorem StR.app {g : Gh} {s : St} {tm : Array Value} {tms : List (Array Value)} {w w' : World} (h : StR g s tm tms w) {k : Nat}
    {gb : Gb} (hg : g.bx k = some gb) (hr : gb.isRow = true)
    (fz' : Nat → Nat → Option Value) (gb' : Gb) (hfz : ∀ b o v, g.fz b o = some v → fz' b o = some v)
    (hnew : ∀ b o, fz' b o ≠ none → g.fz b o ≠ none ∨ w.heap.size ≤ b ∨ (gb.blk = some b ∧ gb.own = true))
    (hok : FzOK ⟨fz', fun j => if j = k then some gb' else g.bx j⟩ w')
    (os : w'.os = w.os) (tape : w'.tape = w.tape) (output : w'.output = w.output) (size : w.heap.size ≤ w'.heap.size)
    (hw : ∀ b, ¬ (gb.blk = some b ∧ gb.own = true) → b < w.heap.size → w'.heap[b]? = w.heap[b]?)
    (ho : ∀ blk, gb'.blk = some blk → gb'.own = true → w.heap.size ≤ blk ∨ (gb.blk = some blk ∧ gb.own = true))
    (b1 : Box) (hb1 : BoxR ⟨fz', fun j => if j = k then some gb' else g.bx j⟩ b1 gb' w') :
    let g' : Gh := ⟨fz', fun j => if j = k then some gb' else g.bx j⟩
    StR g' ((Eff.app k b1).apply s) tm tms w' ∧ Tr g w g' w' ∧ ExtBut (some k) g g' := by
  intro g'
  have hx : ExtBut (some k) g g' := ⟨hfz, fun j a hj e => by
      show (if j = k then some gb' else g.bx j) = some a
      rw [if_neg (fun e => hj (by rw [e]))]
      exact e, fun j a hj e => by cases hj; rw [hg] at e; cases e; exact hr⟩
  have other : ∀ j, j ≠ k → g'.bx j = g.bx j := fun j hj => by show (if j = k then some gb' else g.bx j) = _; rw [if_neg hj]
  have same : g'.bx k = some gb' := by show (if k = k then some gb' else g.bx k) = _; rw [if_pos rfl]
  refine ⟨⟨h.env.stale hx, h.stk.stale hx, ⟨?_, ?_, ?_⟩, hok⟩, ⟨os, tape, output, size, hfz, ?_, ?_, fun b h1 h2 => hw b (fun e => h2 ⟨k, gb, hg, e.1, e.2⟩) h1⟩, hx⟩
  · intro j b e
    simp only [Eff.apply] at e
    by_cases hj : k = j
    · subst hj
      rw [zaF] at e
      cases e
      exact ⟨gb', same, hb1⟩
    · rw [zav _ _ hj, za2] at e
      cases hf : find s.bxs j with
      | none => rw [hf] at e; cases e
      | some c =>
        rw [hf] at e
        cases e
        obtain ⟨a, e1, e2⟩ := h.bxs.box j c hf
        have hsep : ∀ blk, a.blk = some blk → a.own = true → ¬ (gb.blk = some blk ∧ gb.own = true) := fun blk k1 k2 k3 => h.bxs.sep k j gb a blk hj hg e1 k3.1 k3.2 k1 k2
        have hlt : ∀ blk, a.blk = some blk → a.own = true → blk < w.heap.size := fun blk k1 k2 => h.bxs.lt ⟨j, a, e1, k1, k2⟩
        refine ⟨a, by rw [other j (Ne.symm hj)]; exact e1, e2.extStale hx (fun blk k1 k2 => hw blk (hsep blk k1 k2) (hlt blk k1 k2)) (fun blk k1 k2 o k3 => ?_)⟩
        cases hz : fz' blk o with
        | none => exact hz
        | some v =>
          rcases hnew blk o (by rw [hz]; simp) with h1 | h1 | h1
          · exact absurd k3 h1
          · have := hlt blk k1 k2; omega
          · exact (hsep blk k1 k2 h1).elim
  · intro j a e
    simp only [Eff.apply]
    by_cases hj : k = j
    · subst hj; rw [zaF]; rfl
    · rw [other j (Ne.symm hj)] at e
      rw [zav _ _ hj, za2, Option.isSome_map]
      exact h.bxs.dom j a e
  · have key : ∀ j a blk, j ≠ k → g.bx j = some a → a.blk = some blk → a.own = true → gb'.blk = some blk → gb'.own = true → False := fun j a blk hj e1 a1 a2 b1 b2 => by
      rcases ho blk b1 b2 with h1 | h1
      · have := h.bxs.lt ⟨j, a, e1, a1, a2⟩; omega
      · exact h.bxs.sep k j gb a blk (Ne.symm hj) hg e1 h1.1 h1.2 a1 a2
    intro i j a b blk hne e1 e2 a1 a2 b1 b2
    by_cases hi : i = k
    · subst hi
      rw [same] at e1
      cases e1
      rw [other j (Ne.symm hne)] at e2
      exact key j b blk (Ne.symm hne) e2 b1 b2 a1 a2
    · rw [other i hi] at e1
      by_cases hj : j = k
      · subst hj
        rw [same] at e2
        cases e2
        exact key i a blk hi e1 a1 a2 b1 b2
      · rw [other j hj] at e2
        exact h.bxs.sep i j a b blk hne e1 e2 a1 a2 b1 b2
  · intro b o e
    rcases hnew b o e with h1 | h1 | h1
    · exact .inl h1
    · exact .inr (.inl h1)
    · exact .inr (.inr ⟨k, gb, hg, h1.1, h1.2⟩)
  · rintro b ⟨j, a, e1, e2, e3⟩
    by_cases hj : j = k
    · subst hj
      rw [same] at e1
      cases e1
      rcases ho b e2 e3 with h1 | h1
      · exact .inr h1
      · exact .inl ⟨j, gb, hg, h1.1, h1.2⟩
    · rw [other j hj] at e1
      exact .inl ⟨j, a, e1, e2, e3⟩
end Go.V
namespace Go.V
variable [Codes]
def zlP (i:Nat) (f:Field):Bool :=
 !(f.name == "_") && Nat.beq f.offset i
def zcL:Nat→List Field→Bool
 | _,[]=>true
 | i,f :: l=>zlP i f && zcL (i + 1) l
structure CfgOK (C:Cfg) (P:Program):Prop where
 int:∀ t k,C.under t = .int k→P.underlying t = some (.int k)
 bool:∀ t,C.under t = .bool→P.underlying t = some .bool
 str:∀ t,C.under t = .str→P.underlying t = some .string
 ptr:∀ t e,C.under t = .ptr e→P.underlying t = some (.pointer e)
 sl:∀ t e,C.under t = .sl e→P.underlying t = some (.slice e)
 arr:∀ t n e,C.under t = .arr n e→P.underlying t = some (.array n e)
 st:∀ t fs,C.under t = .st fs→∃ fields:Array Field,P.underlying t = some (.struct fields)∧fields.toList.map (fun f=>(f.offset,f.type)) = fs
 fn:∀ t,C.under t = .fn→∃ a b c,P.underlying t = some (.func a b c)
 iface:∀ t,C.under t = .iface→∃ ms,P.underlying t = some (.interface ms)
 map:∀ t k e,C.under t = .map k e→P.underlying t = some (.map k e)
 eqs:∀ t,C.eqs.contains t = true→P.underlying t = some (.struct (P.fieldsOf t))∧P.stoodInHeld t = false∧P.eqGuardType P.depth t = false∧zcL 0 (P.fieldsOf t).toList = true
 eqa:∀ t,C.eqa.contains t = true→P.eqGuardType P.depth t = false
 size:∀ t,C.size t ≠ 0→∃ i,P.info? t = some i∧i.size = C.size t∧i.bytes = C.bytes.getD t 0
 zero:∀ t gs,C.zero t = some gs→∃ i z,P.info? t = some i∧i.size = C.size t∧i.bytes = C.bytes.getD t 0∧i.zero = some z∧∀ g,GsR g gs z.cells.toList
 ty:∀ t T,C.ty t = some T→T.size = C.size t∧∃ i z,P.info? t = some i∧i.size = C.size t∧i.bytes = C.bytes.getD t 0∧i.bytes≤65536∧i.zero = some z∧∀ fz,CR fz T T.dflt z.cells.toList
 keyTy:∀ t k,C.ty t = some (.int k)→P.underlying t = some (.int k)
 zeroTy:∀ t T,C.ty t = some T→∀ i z,P.info? t = some i→i.zero = some z→∀ fz,TV fz T T.dflt z
 zst:∀ t fs i z,C.under t = .st fs→P.info? t = some i→i.zero = some z→∃ a,z = .agg a
 zone:∀ t i z,(C.under t).agg = false→(C.under t).conc = true→P.info? t = some i→i.zero = some z→∀ a,z ≠ .agg a
section
variable {C:Cfg} {P:Program}
def zaE (w:World) (blk off:Nat) (cs:List Value):Prop:=∀ j v,cs[j]? = some v→w.cell? ⟨blk,off + j,none⟩ = some v
theorem Fz.cells {g:Gh} {w:World} (h:FzOK g w) {blk off:Nat} {cs:List Value} (hf:Fz g.fz blk off cs) (hone:∀ v∈cs,v.oneCell' = true):zaE w blk off cs:=fun j v e=>(h _ _ _ (hf j v e)).cell (hone v (List.mem_of_getElem? e))
theorem Elems.one {fz:Nat→Nat→Option Value} {T:Ty} {l:List T.den} {cs:List Value} (h:Elems (CR fz T) l cs):∀ v∈cs,v.oneCell' = true:=h.all fun _ _ h=>h.one
theorem PsR.one {fz:Nat→Nat→Option Value} {gs:List AV} {cs:List Value} (h:PsR fz gs cs):∀ v∈cs,v.oneCell' = true:=(PsR.gsR (g:=⟨fz,fun _=>none⟩) h).one
def Fz1 (fz:Nat→Nat→Option Value) (blk off:Nat) (cs:List Value):Prop:=Fz fz blk off cs∧∀ v∈cs,v.oneCell' = true
theorem Fz1.cells {g:Gh} {w:World} (h:FzOK g w) {blk off:Nat} {cs:List Value} (hf:Fz1 g.fz blk off cs):zaE w blk off cs:=hf.1.cells h hf.2
theorem Fz1.mono {fz fz':Nat→Nat→Option Value} (hf:∀ b o v,fz b o = some v→fz' b o = some v) {blk off:Nat} {cs:List Value} (h:Fz1 fz blk off cs):Fz1 fz' blk off cs:=⟨h.1.mono hf,h.2⟩
theorem BlkIs.cellsAt {w:World} {blk:Nat} {cells:List Value} (h:BlkIs w blk cells) (off:Nat):zaE w blk off (cells.drop off):=fun j v e=>by
 rw [h.cell]
 simpa using e
theorem zaE.drop {w:World} {blk off:Nat} {cs:List Value} (h:zaE w blk off cs) (n:Nat):zaE w blk (off + n) (cs.drop n):=fun j v e=>by
 have:=h (n + j) v (by simpa using e)
 rwa [← Nat.add_assoc] at this
theorem zaE.take {w:World} {blk off:Nat} {cs:List Value} (h:zaE w blk off cs) (n:Nat):zaE w blk off (cs.take n):=fun j v e=>by
 refine h j v ?_
 rw [List.getElem?_take] at e
 split at e
 ·exact e
 ·cases e
theorem zaE.left {w:World} {blk off:Nat} {a b:List Value} (h:zaE w blk off (a++b)):zaE w blk off a:=by
 have:=h.take a.length
 rwa [List.take_left] at this
theorem zaE.right {w:World} {blk off:Nat} {a b:List Value} (h:zaE w blk off (a++b)):zaE w blk (off + a.length) b:=by
 have:=h.drop a.length
 rwa [List.drop_left] at this
theorem zaZ (blk off j:Nat):(⟨blk,off,none⟩:Addr).add j = ⟨blk,off + j,none⟩:=by
 unfold Addr.add
 split
 ·rename_i h; subst h; simp
 ·rfl
theorem zdQ {w:World} {blk off:Nat} {cs:List Value} (h:zaE w blk off cs):(loadCells ⟨blk,off,none⟩ cs.length).run P w = .ok cs.toArray w :=
 run_loadCells_list w _ cs (fun j v e=>by rw [zaZ]; exact h j v e)
theorem run_sizeOf {w:World} {t:TypeId} {i:TypeInfo} (h:P.info? t = some i):(sizeOf t).run P w = .ok i.size w:=by
 simp [sizeOf,typeInfo,h]
def aggB:TypeDesc→Bool
 | .struct _ | .array _ _=>true
 | _=>false
theorem zb7 {w:World} {t:TypeId} {d:TypeDesc} (h:P.underlying t = some d):(isAgg t).run P w = .ok (aggB d) w:=by
 unfold isAgg
 rw [Sem.run_bind,run_underlying h w]
 cases d <;> simp [aggB]
theorem zbJ {w : World} {t : TypeId} {i : TypeInfo} {d : TypeDesc} (hi : P.info? t = some i) (hd : P.underlying t = some d) (ha : (aggB d) = true)
    {blk off : Nat} {cs : List Value} (h : zaE w blk off cs) (hl : cs.length = i.size) : (loadVar t ⟨blk, off, none⟩).run P w = .ok (.agg cs.toArray) w := by
  unfold loadVar
  rw [Sem.run_bind, zb7 hd, ha]
  simp only [Result.andThen_ok, if_true, Sem.run_bind, run_sizeOf hi, ← hl, zdQ h, Sem.run_pure]
theorem zaT {w : World} {t : TypeId} {d : TypeDesc} (hd : P.underlying t = some d) (ha : (aggB d) = false)
    {a : Addr} {c : Value} (h : w.cell? a = some c) : (loadVar t a).run P w = .ok c w := by
  unfold loadVar
  rw [Sem.run_bind, zb7 hd, ha]
  simp [run_load, h]
theorem GR.single_one {g:Gh} {v:AV} {cs:List Value} (h:GR g v cs) (hs:v.single = true):∃ c,cs = [c]:=by
 have hl:=h.length
 have:v.size = 1:=by
  cases v <;> simp only [AV.single,sF] at hs <;> try rfl
  case val T x=>cases T <;> simp only [sF] at hs <;> rfl
 rw [this] at hl
 match cs,hl with
 | [c],_=>exact ⟨c,rfl⟩
theorem loadAt_all (hC:CfgOK C P) {g:Gh} {t:Nat} {gs:List AV} {c:Bool} {v:AV} {e:Eff} (h:loadAt C t gs = some (c,v,e)) {blk off:Nat} {cs:List Value}
  (hg:GsR g gs cs):e = .none∧∃ x,(∀ w,zaE w blk off cs→(loadVar t ⟨blk,off,none⟩).run P w = .ok x w)∧VR1 g v x:=by
 unfold loadAt at h
 split at h
 ·rename_i fs hu
  split at h
  ·rename_i hz
   split at h
   ·rename_i hty
    simp only [ok,sI,sM] at h
    obtain ⟨_,rfl,rfl⟩:=h
    obtain ⟨fields,hd,_⟩:=hC.st _ _ hu
    obtain ⟨_,i,z,hi,hs,_⟩:=hC.ty t _ hty
    exact ⟨rfl,_,fun w hw=>zbJ (cs:=[]) hi hd rfl (fun j v e=>by cases e) (by rw [hs,hz]; rfl),_,rfl,rfl⟩
   ·cases h
  ·rename_i hz
   split at h
   ·rename_i gs' ht
    simp only [ok,sI,sM] at h
    obtain ⟨_,rfl,rfl⟩:=h
    obtain ⟨h1,h2⟩:=zcG ht hg
    obtain ⟨fields,hd,_⟩:=hC.st _ _ hu
    obtain ⟨i,hi,hs,_⟩:=hC.size t hz
    exact ⟨rfl,_,fun w hw=>zbJ hi hd rfl (hw.take (C.size t)) (by rw [List.length_take,hs]; omega),_,rfl,by simpa using h2⟩
   ·cases h
 ·rename_i n e' hu
  split at h
  ·rename_i m T l gs'
   split at h
   ·rename_i hnm
    simp only [ok,sI,sM] at h
    obtain ⟨_,rfl,rfl⟩:=h
    obtain ⟨c1,c2,rfl,h1,h2⟩:=hg
    refine ⟨rfl,?_⟩
    have hl:=CR.length h1
    obtain ⟨i,hi,hs,_⟩:=hC.size t hnm.2.2
    exact ⟨_,fun w hw=>zbJ hi (hC.arr _ _ _ hu) rfl hw.left (by rw [hl,hs,hnm.2.1]; rfl),_,rfl,h1⟩
   ·cases h
  ·split at h
   ·cases h
   ·rename_i hz
    split at h
    ·rename_i gs' ht
     simp only [ok,sI,sM] at h
     obtain ⟨_,rfl,rfl⟩:=h
     obtain ⟨h1,h2⟩:=zcG ht hg
     obtain ⟨i,hi,hs,_⟩:=hC.size t hz
     exact ⟨rfl,_,fun w hw=>zbJ hi (hC.arr _ _ _ hu) rfl (hw.take (C.size t)) (by rw [List.length_take,hs]; omega),_,rfl,by simpa using h2⟩
    ·cases h
 ·cases h
 ·cases h
 ·rename_i h1 h2 h3 h4
  split at h
  ·rename_i v' gs'
   split at h
   ·rename_i hs
    simp only [ok,sI,sM] at h
    obtain ⟨_,rfl,rfl⟩:=h
    obtain ⟨c1,c2,rfl,k1,k2⟩:=hg
    obtain ⟨x,rfl⟩:=k1.single_one hs
    refine ⟨rfl,x,fun w hw=>?_,(zbR hs).2 k1⟩
    have hc:w.cell? ⟨blk,off,none⟩ = some x:=by have:=hw 0 x (by simp); simpa using this
    cases hu:C.under t with
    | int k=>exact zaT (hC.int _ _ hu) rfl hc
    | bool=>exact zaT (hC.bool _ hu) rfl hc
    | str=>exact zaT (hC.str _ hu) rfl hc
    | ptr e=>exact zaT (hC.ptr _ _ hu) rfl hc
    | sl e=>exact zaT (hC.sl _ _ hu) rfl hc
    | arr n e=>exact (h2 _ _ hu).elim
    | st fs=>exact (h1 _ hu).elim
    | fn=>obtain ⟨_,_,_,hd⟩:=hC.fn _ hu; exact zaT hd rfl hc
    | iface=>obtain ⟨_,hd⟩:=hC.iface _ hu; exact zaT hd rfl hc
    | map k e=>exact zaT (hC.map _ _ _ hu) rfl hc
    | tup=>exact (h4 hu).elim
    | oth=>exact (h3 hu).elim
   ·cases h
  ·cases h
theorem zlQ (hC:CfgOK C P) {g:Gh} {w:World} {t:Nat} {gs:List AV} {c:Bool} {v:AV} {e:Eff} (h:loadAt C t gs = some (c,v,e)) {blk off:Nat} {cs:List Value}
  (hg:GsR g gs cs) (hw:zaE w blk off cs):e = .none∧∃ x,(loadVar t ⟨blk,off,none⟩).run P w = .ok x w∧VR1 g v x:=by
 obtain ⟨e1,x,h1,h2⟩:=loadAt_all hC h (blk:=blk) (off:=off) hg
 exact ⟨e1,x,h1 w hw,h2⟩
theorem za9 (s:Stp) (p:List Stp):zam (s :: p) = s.i.toNat * s.sz + s.o + zam p:=rfl
theorem at_lt {T:Ty} {l:List T.den} {i:Int} (h0:0≤i) (h1:i < l.length):at_ T l i = l[i.toNat]'(by omega):=by
 unfold at_
 rw [List.getD_eq_getElem?_getD,List.getElem?_eq_getElem (by omega)]
 rfl
theorem zfH {fz:Nat→Nat→Option Value} {n:Nat} {T:Ty} {l:List T.den} {cs:List Value} (h:CR fz (.arr n T) l cs) {i:Int} (h0:0≤i) (h1:i < n) :
  ∃ a c b,cs = a++(c++b)∧a.length = i.toNat * T.size∧CR fz T (at_ T l i) c:=by
 obtain ⟨hl,he⟩:=h
 obtain ⟨a,c,b,e,ha,hc,_⟩:=he.get (n:=T.size) (fun x cs h=>h.length) i.toNat (by omega)
 exact ⟨a,c,b,e,ha,by rw [at_lt h0 (by omega)]; exact hc⟩
theorem zja {g:Gh} {w:World} {blk:Nat}:∀ {p:List Stp} {gs gs':List AV} {off:Nat} {cs:List Value},gsAt gs p = some gs'→GsR g gs cs→zaE w blk off cs→(∀ s∈p,0≤s.i∧s.i < s.n) →
  ∃ cs',GsR g gs' cs'∧zaE w blk (off + zam p) cs'
 | [],gs,gs',off,cs,h,hg,hw,_=>by
  cases gs <;> (simp only [gsAt,sI] at h; subst h; exact ⟨cs,hg,by simpa [zam] using hw⟩)
 | s :: p,gs,gs',off,cs,h,hg,hw,hp=>by
  unfold gsAt at h
  split at h
  ·rename_i he; cases he
  ·rename_i n T l gs1 s' p' he
   obtain ⟨rfl,rfl⟩:=List.cons.inj he
   split at h
   ·rename_i hn
    split at h
    ·rename_i gs2 hd
     obtain ⟨c1,c2,rfl,h1,h2⟩:=hg
     obtain ⟨q0,q1⟩:=hp s (by simp)
     obtain ⟨a,c,b,rfl,ha,hc⟩:=zfH (fz:=g.fz) (n:=n) (T:=T) h1 q0 (by omega)
     obtain ⟨h3,h4⟩:=za8 hd (ze0 hc)
     have hw1:zaE w blk (off + s.i.toNat * s.sz) c:=by
      have:=hw.left.right
      rw [ha,hn.2] at this
      exact this.left
     obtain ⟨cs',h5,h6⟩:=zja h h4 (hw1.drop s.o) (fun s hs=>hp s (List.mem_cons_of_mem _ hs))
     refine ⟨cs',h5,?_⟩
     rw [za9]
     have e:off + s.i.toNat * s.sz + s.o + zam p = off + (s.i.toNat * s.sz + s.o + zam p):=by omega
     rwa [e] at h6
    ·cases h
   ·cases h
  ·rename_i s' p' _ he
   obtain ⟨rfl,rfl⟩:=List.cons.inj he
   split at h
   ·rename_i gs2 hd
    obtain ⟨h3,h4⟩:=za8 hd hg
    obtain ⟨cs',h5,h6⟩:=zja h h4 (hw.drop _) (fun s hs=>hp s (List.mem_cons_of_mem _ hs))
    refine ⟨cs',h5,?_⟩
    rw [za9]
    have e:off + (s.i.toNat * s.sz + s.o) + zam p = off + (s.i.toNat * s.sz + s.o + zam p):=by omega
    rwa [e] at h6
   ·cases h
theorem zlR {g:Gh} {w:World} (hf:FzOK g w) {T:Ty} {fz:Bool} {l:List T.den} {gb:Gb} (h:BoxR g (.row T fz l) gb w) {blk:Nat} (hb:gb.blk = some blk) :
  ∃ cs,Elems (CR g.fz T) l cs∧zaE w blk gb.off cs:=by
 obtain ⟨_,_,_,_,h5⟩:=h
 cases ho:gb.own with
 | false =>
  simp only [hb,ho] at h5
  obtain ⟨_,_,cs,k3,k4⟩:=h5
  exact ⟨cs,k3,k4.cells hf k3.one⟩
 | true =>
  simp only [hb,ho] at h5
  obtain ⟨cells,cs,k1,k2,k3,k4,_⟩:=h5
  exact ⟨cs,k3,fun j v e=>by rw [k1.cell]; exact k4 j v e⟩
theorem znd {fz:Nat→Nat→Option Value} {w:World} {blk off:Nat} {T:Ty} {l:List T.den} {cs:List Value} (h:Elems (CR fz T) l cs) (hw:zaE w blk off cs) {i:Int} (h0:0≤i) (h1:i < l.length) :
  ∃ c,CR fz T (at_ T l i) c∧zaE w blk (off + i.toNat * T.size) c:=by
 obtain ⟨a,c,b,rfl,ha,hc,_⟩:=h.get (n:=T.size) (fun x cs h=>h.length) i.toNat (by omega)
 refine ⟨c,by rw [at_lt h0 h1]; exact hc,?_⟩
 have:=hw.right
 rw [ha] at this
 exact this.left
theorem zho (hC:CfgOK C P) {g:Gh} {s:St} {tm:Array Value} {tms:List (Array Value)} {w:World} (hs:StR g s tm tms w) {t:Nat} {a:AV} {c:Bool} {v:AV} {e:Eff}
  (h:loadV C s.bxs t a = some (c,v,e)) {x:Value} (ha:VR g a x):e = .none∧∃ y,(Instr.loadAt t x).run P w = .ok y w∧VR1 g v y:=by
 have main:∀ (blk off:Nat) (gs:List AV) (cs:List Value),loadAt C t gs = some (c,v,e)→GsR g gs cs→zaE w blk off cs→x = .pointer (some ⟨blk,off,none⟩) →
   e = .none∧∃ y,(Instr.loadAt t x).run P w = .ok y w∧VR1 g v y:=by
  intro blk off gs cs h1 h2 h3 hx
  obtain ⟨e1,y,h4,h5⟩:=zlQ hC h1 h2 h3
  refine ⟨e1,y,?_,h5⟩
  subst hx
  simp only [Instr.loadAt,Instr.sureAddr,Sem.run_bind,Sem.run_pure,Result.andThen_ok]
  exact h4
 unfold loadV at h
 split at h
 ·rename_i gs
  have ha':GR g (.eptr gs) [x]:=ha
  obtain ⟨blk,off,cs',e1,h1,h2⟩:=ha'
  simp only [sC,and_true] at e1
  exact main blk off gs cs' h h1.gsR (h2.cells hs.fz h1.one) e1
 ·rename_i b off p
  have ha':GR g (.ptr b off p) [x]:=ha
  obtain ⟨gb,blk,e1,e2,e3,e4,e5⟩:=ha'
  simp only [sC,and_true] at e5
  split at h
  ·rename_i gs hb
   split at h
   ·rename_i gs1 hd
    split at h
    ·rename_i gs2 hp
     obtain ⟨gb',k1,k2⟩:=hs.bxs.box _ _ hb
     rw [e1] at k1
     cases k1
     obtain ⟨_,_,blk',cells,k3,k4,k5,_⟩:=k2
     rw [e3] at k3
     cases k3
     obtain ⟨_,h2⟩:=za8 hd k5
     obtain ⟨cs',h3,h4⟩:=zja hp h2 (k4.cellsAt off) e4
     exact main blk _ gs2 cs' h h3 h4 e5
    ·cases h
   ·cases h
  ·cases h
 ·rename_i b i o
  have ha':GR g (.rptr b i o) [x]:=ha
  obtain ⟨gb,blk,e1,e2,e3,e4,e5,e6⟩:=ha'
  simp only [sC,and_true] at e6
  split at h
  ·rename_i T fz l hb
   split at h
   ·rename_i gs1 hd
    obtain ⟨gb',k1,k2⟩:=hs.bxs.box _ _ hb
    rw [e1] at k1
    cases k1
    obtain ⟨cs,k3,k4⟩:=zlR hs.fz k2 e3
    have hsz:gb.sz = T.size:=k2.2.1
    have hlen:gb.len = l.length:=k2.2.2.1
    obtain ⟨c',k5,k6⟩:=znd k3 k4 e4 (by omega)
    obtain ⟨_,h2⟩:=za8 hd (ze0 k5)
    exact main blk _ gs1 _ h h2 (k6.drop o) (by rw [e6,hsz])
   ·cases h
  ·cases h
 ·cases h
theorem zkP {b:Box} {K V:Ty} {l:List (K.den × V.den)} (h:b.toMap = some ⟨K,V,l⟩):b = .map K V l ∨ b = .fmap K V l:=by
 cases b <;> simp only [Box.toMap,reduceCtorEq,sI] at h <;> cases h
 ·exact .inl rfl
 ·exact .inr rfl
theorem zfI {b:Box} {K V:Ty} {l:List (K.den × V.den)} (h:b.toMapW = some ⟨K,V,l⟩):b = .map K V l:=by
 cases b <;> simp only [Box.toMapW,reduceCtorEq,sI] at h
 cases h
 rfl
theorem zjb {b:Box} {K V:Ty} {l:List (K.den × V.den)} (h:b.toMapF = some ⟨K,V,l⟩):b = .fmap K V l:=by
 cases b <;> simp only [Box.toMapF,reduceCtorEq,sI] at h
 cases h
 rfl
theorem zfJ {b:Box} {K V:Ty} {l:List (K.den × V.den)} (h:b.toIter = some ⟨K,V,l⟩):∃ c,b = .iter K V l c:=by
 cases b <;> simp only [Box.toIter,reduceCtorEq,sI] at h
 cases h
 exact ⟨_,rfl⟩
theorem zkQ {b:Box} {K V:Ty} {c:K.den × V.den} (h:b.toCur = some ⟨K,V,c⟩):∃ l,b = .iter K V l (some c):=by
 cases b <;> simp only [Box.toCur,reduceCtorEq] at h
 split at h
 ·simp only [sI] at h
  cases h
  exact ⟨_,rfl⟩
 ·cases h
theorem zeN {bx:Bxs} {b:Nat} {K V:Ty} {l:List (K.den × V.den)} (h:mapAt bx b = some ⟨K,V,l⟩):find bx b = some (.map K V l) ∨ find bx b = some (.fmap K V l):=by
 unfold mapAt at h
 split at h
 ·rename_i x hx
  rcases zkP h with h1 | h1
  ·exact .inl (by rw [hx,h1])
  ·exact .inr (by rw [hx,h1])
 ·cases h
theorem zjc {bx:Bxs} {b:Nat} {K V:Ty} {l:List (K.den × V.den)} (h:zjL bx b = some ⟨K,V,l⟩):find bx b = some (.map K V l):=by
 unfold zjL at h
 split at h
 ·rename_i x hx
  rw [hx,zfI h]
 ·cases h
theorem zjd {bx:Bxs} {b:Nat} {K V:Ty} {l:List (K.den × V.den)} (h:iterAt bx b = some ⟨K,V,l⟩):∃ c,find bx b = some (.iter K V l c):=by
 unfold iterAt at h
 split at h
 ·rename_i x hx
  obtain ⟨c,rfl⟩:=zfJ h
  exact ⟨c,hx⟩
 ·cases h
theorem zkR {bx:Bxs} {b:Nat} {K V:Ty} {c:K.den × V.den} (h:curAt bx b = some ⟨K,V,c⟩):∃ l,find bx b = some (.iter K V l (some c)):=by
 unfold curAt at h
 split at h
 ·rename_i x hx
  obtain ⟨l,rfl⟩:=zkQ h
  exact ⟨l,hx⟩
 ·cases h
theorem BoxR.curNone {g:Gh} {K V:Ty} {l:List (K.den × V.den)} {c:Option (K.den × V.den)} {gb:Gb} {w:World} (h:BoxR g (.iter K V l c) gb w):BoxR g (.iter K V l none) gb w:=by
 obtain ⟨h1,h2,r,m,es,ck,si,se,la,h3,h4,h5,h6,h7,h8⟩:=h
 exact ⟨h1,h2,r,m,es,ck,si,se,la,h3,h4,h5,⟨h6.1,h6.2.1,h6.2.2.1,h6.2.2.2.1,fun _ h=>nomatch h⟩,h7,h8⟩
theorem zlS {g:Gh} {s:St} {tm:Array Value} {tms:List (Array Value)} {w:World} (hs:StR g s tm tms w) {b:Nat} {K V:Ty} {l:List (K.den × V.den)} (hb:mapAt s.bxs b = some ⟨K,V,l⟩) {c:Value} (hv:VR g (.mp b) c) :
  ∃ gb r es ck,c = .map (some r)∧g.bx b = some gb∧gb.blk = some r∧gb.isRow = false∧gb.own = true∧w.heap[r]? = some (.map es ck)∧EntR g.fz K V l es.toList∧BornR es.toList ck:=by
 obtain ⟨gb,r,e1,e2,e3,e4⟩:=hv
 simp only [sC,and_true] at e4
 rcases zeN hb with hb | hb
 ·obtain ⟨gb',k1,q1,q2,r',es,ck,q3,q4,q5,q6⟩:=hs.bxs.box b _ hb
  rw [e1] at k1
  cases k1
  rw [e3] at q3
  cases q3
  exact ⟨gb,r,es,ck,e4,e1,e3,e2,q2,q4,q5,q6.1⟩
 ·obtain ⟨gb',k1,q1,q2,r',es,ck,q3,q4,q5,q6⟩:=hs.bxs.box b _ hb
  rw [e1] at k1
  cases k1
  rw [e3] at q3
  cases q3
  exact ⟨gb,r,es,ck,e4,e1,e3,e2,q2,q4,q5,q6.1⟩
theorem zox {g:Gh} {s:St} {tm:Array Value} {tms:List (Array Value)} {w:World} (hs:StR g s tm tms w) {b:Nat} {K V:Ty} {l:List (K.den × V.den)} (hb:zjL s.bxs b = some ⟨K,V,l⟩) {c:Value} (hv:VR g (.mp b) c) :
  ∃ gb r es ck,c = .map (some r)∧g.bx b = some gb∧gb.blk = some r∧gb.isRow = false∧gb.own = true∧w.heap[r]? = some (.map es ck)∧EntR g.fz K V l es.toList∧BornR es.toList ck∧∀ o,g.fz r o = none:=by
 obtain ⟨gb,r,e1,e2,e3,e4⟩:=hv
 simp only [sC,and_true] at e4
 obtain ⟨gb',k1,q1,q2,r',es,ck,q3,q4,q5,q6⟩:=hs.bxs.box b _ (zjc hb)
 rw [e1] at k1
 cases k1
 rw [e3] at q3
 cases q3
 exact ⟨gb,r,es,ck,e4,e1,e3,e2,q2,q4,q5,q6.1,q6.2⟩
theorem EntR.length {fz:Nat→Nat→Option Value} {K V:Ty}:∀ {l:List (K.den × V.den)} {es:List MapEntry},EntR fz K V l es→es.length = l.length
 | [],[],_=>rfl
 | _ :: _,_ :: _,⟨_,_,h⟩=>by simp [h.length]
 | [],_ :: _,h=>h.elim
 | _ :: _,[],h=>h.elim
end
end Go.V
namespace Go.V
variable [Codes]
section
variable {C:Cfg} {P:Program}
structure StW (w w':World) (blk:Nat):Prop where
 os:w'.os = w.os
 tape:w'.tape = w.tape
 output:w'.output = w.output
 size:w'.heap.size = w.heap.size
 other:∀ b,b ≠ blk→w'.heap[b]? = w.heap[b]?
theorem StW.refl (w:World) (blk:Nat):StW w w blk:=⟨rfl,rfl,rfl,rfl,fun _ _=>rfl⟩
theorem StW.trans {a b c:World} {blk:Nat} (h:StW a b blk) (k:StW b c blk):StW a c blk :=
 ⟨k.os.trans h.os,k.tape.trans h.tape,k.output.trans h.output,k.size.trans h.size,fun b hb=>(k.other b hb).trans (h.other b hb)⟩
theorem zje (w:World) (a:Addr) (v:Value):StW w (w.setCell a v) a.block :=
 ⟨rfl,rfl,rfl,by simp,fun b hb=>heap_setCell_other w a b v hb⟩
theorem BlkIs.setCell {w:World} {blk:Nat} {cells:List Value} (h:BlkIs w blk cells) (o:Nat) (v:Value):BlkIs (w.setCell ⟨blk,o,none⟩ v) blk (cells.set o v):=by
 obtain ⟨e,lo,hi,h1,h2⟩:=h
 refine ⟨e,lo,hi,?_,fun j hj=>h2 j (by simpa using hj)⟩
 simp only [World.setCell,Array.getElem?_modify,if_true,h1,Option.map_some]
 simp
theorem zaU {blk off:Nat}:∀ (vs:List Value) (i:Nat) {w:World} {cells:List Value},BlkIs w blk cells→off + i + vs.length≤cells.length→(∀ v∈vs,v.oneCell' = true) →
  ∃ w',(storeCells ⟨blk,off,none⟩ vs i).run P w = .ok () w'∧StW w w' blk∧BlkIs w' blk (cells.take (off + i)++vs++cells.drop (off + i + vs.length))
 | [],i,w,cells,h,hl,_=>⟨w,by simp [storeCells],StW.refl w blk,by simpa using h⟩
 | v :: vs,i,w,cells,h,hl,h1=>by
  simp only [List.length_cons] at hl
  have hc:w.cell? ⟨blk,off + i,none⟩ = some cells[off + i]:=by rw [h.cell,List.getElem?_eq_getElem (by omega)]
  have hf:=h.frozen (o:=off + i) (by omega)
  have hs:=h.setCell (off + i) v
  obtain ⟨w',h3,h4,h5⟩:=zaU (off:=off) vs (i + 1) hs (by simp; omega) (fun u hu=>h1 u (List.mem_cons_of_mem _ hu))
  refine ⟨w',?_,(zje w ⟨blk,off + i,none⟩ v).trans h4,?_⟩
  ·simp only [storeCells,Sem.run_bind,zaZ,run_store P w _ v .plain (h1 v (by simp)),hc,hf,sF,if_false,Result.andThen_ok]
   exact h3
  ·have e:(cells.set (off + i) v).take (off + (i + 1))++vs++(cells.set (off + i) v).drop (off + (i + 1) + vs.length) = cells.take (off + i)++v :: vs++cells.drop (off + i + (v :: vs).length):=by
    have e1:(cells.set (off + i) v).drop (off + (i + 1) + vs.length) = cells.drop (off + i + (v :: vs).length):=by
     rw [List.drop_set_of_lt (show off + i < off + (i + 1) + vs.length by omega)]
     congr 1
     simp only [List.length_cons]
     omega
    have e2:(cells.set (off + i) v).take (off + (i + 1)) = cells.take (off + i)++[v]:=by
     rw [show off + (i + 1) = (off + i) + 1 by omega,List.take_succ_eq_append_getElem (show off + i < (cells.set (off + i) v).length by simp; omega),List.take_set_of_le (Nat.le_refl _)]
     simp
    rw [e1,e2]
    simp
   rwa [e] at h5
theorem zib {t:TypeId} {i:TypeInfo} (hi:P.info? t = some i) {blk off:Nat} {w:World} {cells:List Value} {v:Value} (h:BlkIs w blk cells) (hl:v.cells.toList.length = i.size)
  (hb:off + i.size≤cells.length) (h1:∀ c∈v.cells.toList,c.oneCell' = true) :
  ∃ w',(storeVar t ⟨blk,off,none⟩ v).run P w = .ok () w'∧StW w w' blk∧BlkIs w' blk (cells.take off++v.cells.toList++cells.drop (off + i.size)):=by
 obtain ⟨w',h3,h4,h5⟩:=zaU (P:=P) (off:=off) v.cells.toList 0 h (by rw [hl]; omega) h1
 refine ⟨w',?_,h4,by simpa [← hl] using h5⟩
 have hs:¬ (v.cells.size ≠ i.size):=by rw [← hl]; simp
 simp only [storeVar,Sem.run_bind,run_sizeOf hi,Result.andThen_ok,hs,if_false]
 exact h3
theorem zjf {g:Gh} {bxs:Bxs} {w:World} (hb:BxW g bxs w) (_hf:FzOK g w) {T:Ty} {v:AV} {x:T.den} (h:conv bxs T v = some x) {cs:List Value} (hg:GR g v cs):CR g.fz T x cs:=by
 unfold conv at h
 split at h
 ·split at h
  ·rename_i S y e
   subst e
   simp only [sI] at h
   subst h
   exact hg
  ·cases h
 ·split at h
  ·rename_i S l e
   subst e
   simp only [sI] at h
   subst h
   rcases hg with ⟨rfl,_,rfl⟩ | ⟨blk,off,cs',rfl,h1,h2⟩
   ·exact ⟨_,rfl,.inl ⟨rfl,_,rfl⟩⟩
   ·exact ⟨_,rfl,.inr ⟨blk,off,l.length,cs',rfl,Nat.le_refl _,h1,h2⟩⟩
  ·cases h
 ·split at h
  ·rename_i S l e
   subst e
   simp only [sI] at h
   subst h
   rcases hg with ⟨rfl,_,rfl⟩ | ⟨blk,off,cap,cs',rfl,h0,h1,h2⟩
   ·exact ⟨_,rfl,.inl ⟨rfl,_,rfl⟩⟩
   ·exact ⟨_,rfl,.inr ⟨blk,off,cap,cs',rfl,h0,h1,h2⟩⟩
  ·cases h
 ·split at h
  ·simp only [sI] at h
   subst h
   have:cs = [.slice none 0 0]:=hg
   subst this
   exact ⟨_,rfl,.inl ⟨rfl,_,rfl⟩⟩
  ·cases h
 ·rename_i b wn
  split at h
  ·rename_i S l hfd
   split at h
   ·rename_i e
    subst e
    simp only [sI] at h
    subst h
    obtain ⟨gb,v,e1,e2,rfl,hw⟩:=hg
    obtain ⟨gb',k1,k2⟩:=hb.box _ _ hfd
    rw [e1] at k1
    cases k1
    refine ⟨v,rfl,?_⟩
    obtain ⟨_,hsz,hlen,hcap,hr⟩:=k2
    have hcont:∀ blk,gb.blk = some blk→∃ cs,Elems (CR g.fz S) l cs∧Fz g.fz blk gb.off cs:=by
     intro blk hblk
     cases ho:gb.own with
     | false=>simp only [hblk,ho] at hr; obtain ⟨_,_,cs,k3,k4⟩:=hr; exact ⟨cs,k3,k4⟩
     | true=>simp only [hblk,ho] at hr; obtain ⟨cells,cs,_,_,k3,_,_,k6⟩:=hr; exact ⟨cs,k3,(k6 trivial).1⟩
    cases hblk:gb.blk with
    | none =>
     simp only [hblk] at hr
     obtain ⟨rfl,_⟩:=hr
     cases wn with
     | whole=>simp only [WinR,hblk] at hw; exact .inl ⟨rfl,_,hw.1⟩
     | part off n full=>simp only [WinR,hblk] at hw; exact .inl ⟨by simp [Win.app],_,hw.2.2.2⟩
    | some blk =>
     obtain ⟨cs,k3,k4⟩:=hcont blk hblk
     cases wn with
     | whole =>
      simp only [WinR,hblk] at hw
      exact .inr ⟨blk,gb.off,gb.cap,cs,by rw [hw,hlen]; rfl,by show l.length≤_; omega,k3,k4⟩
     | part off n full =>
      simp only [WinR,hblk] at hw
      obtain ⟨w1,a,c,rfl,wsp,w2,w3,w4,w5⟩:=hw
      have hlw:(Win.app (.part off n full) l).length = n:=by simp only [Win.app,List.length_take,List.length_drop]; omega
      by_cases hn:n = 0
      ·have he:Win.app (.part off n full) l = []:=List.eq_nil_of_length_eq_zero (by rw [hlw,hn])
       rw [he]
       exact .inr ⟨a.block,a.off,c,[],by obtain ⟨ab,ao,as⟩:=a; simp only at wsp; subst wsp; simp [hn],by simp,rfl,fun j v e=>by simp at e⟩
      ·have ha:a = ⟨blk,gb.off + off * gb.sz,none⟩:=by
        rcases w5 with h0 | h0
        ·omega
        ·exact h0
       have hs1:=k3.split (n:=S.size) (fun x cs h=>h.length) off (by omega)
       have hs2:=hs1.2.split (n:=S.size) (fun x cs h=>h.length) n (by rw [List.length_drop]; omega)
       refine .inr ⟨blk,gb.off + off * gb.sz,c,(cs.drop (off * S.size)).take (n * S.size),by rw [hlw,ha],by rw [hlw]; exact w2,hs2.1,?_⟩
       intro j v e
       rw [List.getElem?_take] at e
       split at e
       ·rw [List.getElem?_drop] at e
        rw [hsz,Nat.add_assoc]
        exact k4 _ v e
       ·cases e
   ·cases h
  ·cases h
 ·cases h
theorem rd_ok {g:Gh} {bxs:Bxs} {w:World} (hb:BxW g bxs w) (hf:FzOK g w):∀ {T:Ty} {gs:List AV} {x:T.den} {rest:List AV},T.rd bxs gs = some (x,rest)→∀ {cs:List Value},GsR g gs cs →
  ∃ c1 c2,cs = c1++c2∧CR g.fz T x c1∧GsR g rest c2
 | .unit,gs,x,rest,h,cs,hg=>by
  simp only [Ty.rd,sI,sM] at h
  obtain ⟨_,rfl⟩:=h
  exact ⟨[],cs,rfl,rfl,hg⟩
 | .pair a b,gs,x,rest,h,cs,hg=>by
  simp only [Ty.rd] at h
  split at h
  ·rename_i y l1 h1
   split at h
   ·rename_i z l2 h2
    simp only [sI,sM] at h
    obtain ⟨rfl,rfl⟩:=h
    obtain ⟨c1,c2,rfl,k1,k2⟩:=rd_ok hb hf h1 hg
    obtain ⟨c3,c4,rfl,k3,k4⟩:=rd_ok hb hf h2 k2
    exact ⟨c1++c3,c4,by simp,⟨c1,c3,rfl,k1,k3⟩,k4⟩
   ·cases h
  ·cases h
 | .int k,gs,x,rest,h,cs,hg=>one (T:=.int k) hb hf (by intro l; cases l <;> rfl) h hg
 | .bool,gs,x,rest,h,cs,hg=>one (T:=.bool) hb hf (by intro l; cases l <;> rfl) h hg
 | .str,gs,x,rest,h,cs,hg=>one (T:=.str) hb hf (by intro l; cases l <;> rfl) h hg
 | .sl e,gs,x,rest,h,cs,hg=>one (T:=.sl e) hb hf (by intro l; cases l <;> rfl) h hg
 | .arr n e,[],x,rest,h,cs,hg=>by cases h
 | .arr n e,v :: l,x,rest,h,cs,hg=>by
  simp only [Ty.rd] at h
  split at h
  ·rename_i y hy
   simp only [sI,sM] at h
   obtain ⟨rfl,rfl⟩:=h
   obtain ⟨c1,c2,e,k1,k2⟩:=hg
   exact ⟨c1,c2,e,zjf hb hf hy k1,k2⟩
  ·obtain ⟨c1,c2,e1,k1,k2,k3⟩:=many (R:=CR g.fz e) (f:=e.rd bxs) (fun _ _ _ h _ hg=>rd_ok hb hf h hg) n h hg
   exact ⟨c1,c2,e1,⟨k1,k2⟩,k3⟩
 where
 many {g:Gh} {α:Type} {R:α→List Value→Prop} {f:List AV→Option (α × List AV)} (hF:∀ gs x rest,f gs = some (x,rest)→∀ cs,GsR g gs cs→∃ c1 c2,cs = c1++c2∧R x c1∧GsR g rest c2) :
   ∀ (n:Nat) {gs:List AV} {x:List α} {rest:List AV},rdN f n gs = some (x,rest)→∀ {cs:List Value},GsR g gs cs→∃ c1 c2,cs = c1++c2∧x.length = n∧Elems R x c1∧GsR g rest c2
  | 0,gs,x,rest,h,cs,hg=>by
   simp only [rdN,sI,sM] at h
   obtain ⟨rfl,rfl⟩:=h
   exact ⟨[],cs,rfl,rfl,rfl,hg⟩
  | n + 1,gs,x,rest,h,cs,hg=>by
   simp only [rdN] at h
   split at h
   ·rename_i y l1 h1
    split at h
    ·rename_i ys l2 h2
     simp only [sI,sM] at h
     obtain ⟨rfl,rfl⟩:=h
     obtain ⟨c1,c2,rfl,k1,k2⟩:=hF _ _ _ h1 _ hg
     obtain ⟨c3,c4,rfl,k3,k4,k5⟩:=many hF n h2 k2
     exact ⟨c1++c3,c4,by simp,by simp [k3],⟨c1,c3,rfl,k1,k4⟩,k5⟩
    ·cases h
   ·cases h
 one {g:Gh} {bxs:Bxs} {w:World} (hb:BxW g bxs w) (hf:FzOK g w) {T:Ty} (hT:∀ l,T.rd bxs l = match l with
   | []=>none
   | v :: l=>match conv bxs T v with
    | some x=>some (x,l)
    | none=>none) {gs:List AV} {x:T.den} {rest:List AV} (h:T.rd bxs gs = some (x,rest)) {cs:List Value} (hg:GsR g gs cs) :
   ∃ c1 c2,cs = c1++c2∧CR g.fz T x c1∧GsR g rest c2:=by
  rw [hT] at h
  cases gs with
  | nil=>cases h
  | cons v l =>
   simp only at h
   split at h
   ·rename_i y hy
    simp only [sI,sM] at h
    obtain ⟨rfl,rfl⟩:=h
    obtain ⟨c1,c2,e,k1,k2⟩:=hg
    exact ⟨c1,c2,e,zjf hb hf hy k1,k2⟩
   ·cases h
theorem rd_all {g:Gh} {bxs:Bxs} {w:World} (hb:BxW g bxs w) (hf:FzOK g w) {T:Ty} {gs:List AV} {x:T.den} (h:T.rd bxs gs = some (x,[])) {cs:List Value} (hg:GsR g gs cs):CR g.fz T x cs:=by
 obtain ⟨c1,c2,rfl,h1,h2⟩:=rd_ok hb hf h hg
 have:c2 = []:=h2
 subst this
 simpa using h1
theorem zo2 {g:Gh} {bxs:Bxs} {w:World} (hb:BxW g bxs w) (hf:FzOK g w) {T:Ty} {x y:T.den} {o:Nat} {new:List AV} (h:T.put bxs x o new = some y) {cs ns:List Value} (hx:CR g.fz T x cs)
  (hn:GsR g new ns):o + ns.length≤cs.length∧CR g.fz T y (cs.take o++ns++cs.drop (o + ns.length)):=by
 unfold Ty.put at h
 split at h
 ·rename_i gs h1
  split at h
  ·rename_i z h2
   simp only [sI] at h
   subst h
   obtain ⟨k1,k2⟩:=zb5 hn h1 (ze0 hx)
   exact ⟨k1,rd_all hb hf h2 k2⟩
  ·cases h
 ·cases h
theorem zfk {α:Type} (p a c b d:List α) (k:Nat) (hk:k≤c.length):(p++((a++(c++b))++d)).take (p.length + (a.length + k)) = p++(a++c.take k):=by
 have h1:p++((a++(c++b))++d) = p++(a++(c.take k++(c.drop k++(b++d)))):=by
  rw [← List.append_assoc (c.take k),List.take_append_drop]
  simp
 rw [h1,← List.append_assoc,← List.append_assoc,List.take_left' (by simp; omega)]
 simp
theorem zfl {α:Type} (p a c b d:List α) (k:Nat) (hk:k≤c.length):(p++((a++(c++b))++d)).drop (p.length + (a.length + k)) = c.drop k++b++d:=by
 have h1:p++((a++(c++b))++d) = p++(a++(c.take k++(c.drop k++(b++d)))):=by
  rw [← List.append_assoc (c.take k),List.take_append_drop]
  simp
 rw [h1,← List.append_assoc,← List.append_assoc,List.drop_left' (by simp; omega)]
 simp
theorem zkb {g:Gh} {T:Ty} {l:List T.den}:∀ {k i:Nat} {cs:List Value},i + k = l.length→Elems (CR g.fz T) (l.drop i) cs→GsR g (exGs T l k i) cs
 | 0,i,cs,hk,h=>by
  rw [List.drop_eq_nil_of_le (by omega)] at h
  exact h
 | k + 1,i,cs,hk,h=>by
  rw [List.drop_eq_getElem_cons (show i < l.length by omega)] at h
  obtain ⟨c1,c2,rfl,h1,h2⟩:=h
  have e:l.getD i T.dflt = l[i]'(by omega):=by rw [List.getD_eq_getElem?_getD,List.getElem?_eq_getElem (by omega)]; rfl
  rw [exGs,e]
  exact (ze0 h1).append (zkb (by omega) h2)
theorem zfm {g:Gh} {bxs:Bxs} {w:World} (hb:BxW g bxs w) (hf:FzOK g w) {new:List AV} {ns:List Value} (hn:GsR g new ns):∀ {p:List Stp} {gs gs':List AV} {off:Nat},putAt bxs gs off p new = some gs' →
  ∀ {cs:List Value},GsR g gs cs→(∀ s∈p,0≤s.i∧s.i < s.n) →
  off + zam p + ns.length≤cs.length∧GsR g gs' (cs.take (off + zam p)++ns++cs.drop (off + zam p + ns.length))
 | [],gs,gs',off,h,cs,hg,_=>by simpa [zam] using zb5 hn (show putGs gs off new = some gs' by simpa [putAt] using h) hg
 | s :: p,gs,gs',off,h,cs,hg,hp=>by
  simp only [putAt] at h
  split at h
  ·rename_i n T l gs1 hd
   split at h
   ·rename_i hns
    split at h
    ·rename_i es hes
     split at h
     ·rename_i y hy
      obtain ⟨h1,h2⟩:=za8 hd hg
      obtain ⟨c1,c2,e12,k1,k2⟩:=h2
      obtain ⟨q0,q1⟩:=hp s (by simp)
      have hT:∀ (x:T.den) (cs:List Value),CR g.fz T x cs→cs.length = T.size:=fun x cs h=>h.length
      have hi:s.i.toNat < l.length:=by have:=k1.1; omega
      obtain ⟨a,c,b,rfl,ha,hc⟩:=zfH (fz:=g.fz) k1 q0 (by omega)
      obtain ⟨h3,h4⟩:=zfm hb hf hn hes (ze0 hc) (fun s hs=>hp s (List.mem_cons_of_mem _ hs))
      have h5:=rd_all hb hf hy h4
      have hlc:c.length = T.size:=hc.length
      obtain ⟨a',b',c0,ea,ha',_,hset⟩:=k1.2.set hT s.i.toNat hi h5
      have hcl:c0.length = T.size:=by
       have e1:=congrArg List.length ea
       have e2:=(k1.2.split hT s.i.toNat (by omega)).1
       have e3:=hset.length hT
       simp only [List.length_append,List.length_set,List.length_take,List.length_drop] at e1 e3
       have e4:=k1.2.length hT
       simp only [List.length_append] at e4
       omega
      obtain ⟨rfl,e2⟩:=List.append_inj ea (by rw [ha,ha'])
      obtain ⟨rfl,rfl⟩:=List.append_inj e2 (by rw [hlc,hcl])
      have h6:CR g.fz (.arr n T) (l.set s.i.toNat y) (a++((c.take (s.o + zam p)++ns++c.drop (s.o + zam p + ns.length))++b)):=⟨by simpa using k1.1,hset⟩
      have h7:GsR g [.val (.arr n T) (l.set s.i.toNat y)] (a++((c.take (s.o + zam p)++ns++c.drop (s.o + zam p + ns.length))++b)):=⟨_,[],by simp,h6,rfl⟩
      obtain ⟨h8,h9⟩:=zb5 h7 h hg
      have hlen:(a++((c.take (s.o + zam p)++ns++c.drop (s.o + zam p + ns.length))++b)).length = (a++(c++b)).length:=by
       simp only [List.length_append,List.length_take,List.length_drop]
       omega
      rw [hlen] at h8 h9
      have hcs:cs = cs.take off++((a++(c++b))++c2):=by rw [← e12,List.take_append_drop]
      have hto:(cs.take off).length = off:=by rw [List.length_take]; omega
      rw [za9]
      refine ⟨?_,?_⟩
      ·have:=congrArg List.length hcs
       simp only [List.length_append] at this
       rw [← hns.2,← ha]
       omega
      ·have hd2:cs.drop (off + (a++(c++b)).length) = c2:=by
        rw [← List.drop_drop,e12,List.drop_left]
       rw [hd2] at h9
       have t1:cs.take (off + (s.i.toNat * s.sz + s.o + zam p)) = cs.take off++(a++c.take (s.o + zam p)):=by
        have h:=zfk (cs.take off) a c b c2 (s.o + zam p) (by omega)
        rw [← hcs,hto] at h
        rw [← h,← hns.2,← ha]
        congr 1
        omega
       have t2:cs.drop (off + (s.i.toNat * s.sz + s.o + zam p) + ns.length) = c.drop (s.o + zam p + ns.length)++b++c2:=by
        have h:=zfl (cs.take off) a c b c2 (s.o + zam p + ns.length) (by omega)
        rw [← hcs,hto] at h
        rw [← h,← hns.2,← ha]
        congr 1
        omega
       rw [t1,t2]
       simpa [List.append_assoc] using h9
     ·split at h
      ·rename_i gs2 hg2
       obtain ⟨h1,h2⟩:=za8 hd hg
       obtain ⟨c1,c2,e12,k1,k2⟩:=h2
       obtain ⟨q0,q1⟩:=hp s (by simp)
       obtain ⟨a,c,b,eabc,ha,hc⟩:=zfH (fz:=g.fz) k1 q0 (by omega)
       obtain ⟨h3,h4⟩:=zfm hb hf hn hes (ze0 hc) (fun s hs=>hp s (List.mem_cons_of_mem _ hs))
       have hlc:c.length = T.size:=hc.length
       have hx:GsR g (exGs T l n 0) c1:=zkb (by have:=k1.1; omega) (by simpa using k1.2)
       obtain ⟨p1,p2⟩:=zb5 hx hg2 hg
       have hsame:cs.take off++c1++cs.drop (off + c1.length) = cs:=by
        have e1:cs.drop (off + c1.length) = c2:=by rw [← List.drop_drop,e12,List.drop_left]
        rw [e1,List.append_assoc,← e12,List.take_append_drop]
       rw [hsame] at p2
       obtain ⟨p3,p4⟩:=zb5 h4 h p2
       have hcs:cs = cs.take off++((a++(c++b))++c2):=by rw [← eabc,← e12,List.take_append_drop]
       have hto:(cs.take off).length = off:=by rw [List.length_take]; omega
       have hlen:(c.take (s.o + zam p)++ns++c.drop (s.o + zam p + ns.length)).length = c.length:=by
        simp only [List.length_append,List.length_take,List.length_drop]
        omega
       rw [hlen] at p3 p4
       rw [za9]
       have hl:=congrArg List.length hcs
       simp only [List.length_append] at hl
       refine ⟨by rw [← hns.2,← ha]; omega,?_⟩
       have t0:cs.take (off + s.i.toNat * s.sz) = cs.take off++a:=by
        have h:=zfk (cs.take off) a c b c2 0 (Nat.zero_le _)
        rw [← hcs,hto] at h
        rw [List.take_zero,List.append_nil] at h
        rw [← h,← hns.2,← ha]
        rfl
       have t3:cs.drop (off + s.i.toNat * s.sz + c.length) = b++c2:=by
        have h:=zfl (cs.take off) a c b c2 c.length (Nat.le_refl _)
        rw [← hcs,hto,List.drop_length,List.nil_append] at h
        rw [← h,← hns.2,← ha]
        congr 1
        omega
       have t1:cs.take (off + (s.i.toNat * s.sz + s.o + zam p)) = cs.take off++(a++c.take (s.o + zam p)):=by
        have h:=zfk (cs.take off) a c b c2 (s.o + zam p) (by omega)
        rw [← hcs,hto] at h
        rw [← h,← hns.2,← ha]
        congr 1
        omega
       have t2:cs.drop (off + (s.i.toNat * s.sz + s.o + zam p) + ns.length) = c.drop (s.o + zam p + ns.length)++b++c2:=by
        have h:=zfl (cs.take off) a c b c2 (s.o + zam p + ns.length) (by omega)
        rw [← hcs,hto] at h
        rw [← h,← hns.2,← ha]
        congr 1
        omega
       rw [t0,t3] at p4
       rw [t1,t2]
       simpa [List.append_assoc] using p4
      ·cases h
    ·cases h
   ·cases h
  ·obtain ⟨h1,h2⟩:=zfm hb hf hn h hg (fun s hs=>hp s (List.mem_cons_of_mem _ hs))
   rw [za9]
   have e:off + (s.i.toNat * s.sz + s.o) + zam p = off + (s.i.toNat * s.sz + s.o + zam p):=by omega
   rw [e] at h1 h2
   exact ⟨h1,h2⟩
  ·cases h
end
end Go.V
namespace Go.V
variable [Codes]
section
variable {C:Cfg} {P:Program}
theorem zcM {α:Type} (l ns:List α) (k j:Nat) (h:k + ns.length≤l.length) :
  (l.take k++ns++l.drop (k + ns.length))[j]? = if j < k then l[j]? else if j < k + ns.length then ns[j - k]? else l[j]?:=by
 have hk:(l.take k).length = k:=by rw [List.length_take]; omega
 by_cases h1:j < k
 ·rw [if_pos h1,List.append_assoc,List.getElem?_append_left (by omega),List.getElem?_take,if_pos h1]
 ·rw [if_neg h1]
  by_cases h2:j < k + ns.length
  ·rw [if_pos h2,List.getElem?_append_left (by rw [List.length_append]; omega),List.getElem?_append_right (by omega),hk]
  ·rw [if_neg h2,List.getElem?_append_right (by rw [List.length_append]; omega),List.length_append,hk,List.getElem?_drop]
   congr 1
   omega
theorem zkS {α:Type} {cs cells ns:List α} {off k:Nat} (h:∀ j v,cs[j]? = some v→cells[off + j]? = some v) (h1:k + ns.length≤cs.length) (h2:off + k + ns.length≤cells.length) :
  ∀ j v,(cs.take k++ns++cs.drop (k + ns.length))[j]? = some v→(cells.take (off + k)++ns++cells.drop (off + k + ns.length))[off + j]? = some v:=by
 intro j v e
 rw [zcM _ _ _ _ h1] at e
 rw [zcM _ _ _ _ h2]
 by_cases c1:j < k
 ·rw [if_pos c1] at e; rw [if_pos (by omega)]; exact h j v e
 ·rw [if_neg c1] at e
  rw [if_neg (by omega)]
  by_cases c2:j < k + ns.length
  ·rw [if_pos c2] at e; rw [if_pos (by omega),show off + j - (off + k) = j - k by omega]; exact e
  ·rw [if_neg c2] at e; rw [if_neg (by omega)]; exact h j v e
theorem zic {α:Type} (a c b ns:List α) (o:Nat) (h:o + ns.length≤c.length) :
  a++((c.take o++ns++c.drop (o + ns.length))++b) = (a++(c++b)).take (a.length + o)++ns++(a++(c++b)).drop (a.length + o + ns.length):=by
 have t:=zfk [] a c b [] o (by omega)
 have d:=zfl [] a c b [] (o + ns.length) h
 simp only [List.nil_append,List.append_nil,List.length_nil,Nat.zero_add] at t d
 rw [t,Nat.add_assoc,d]
 simp
theorem zlT (hC:CfgOK C P) {g:Gh} {s:St} {tm:Array Value} {tms:List (Array Value)} {w:World} (hs:StR g s tm tms w) {t:Nat} {a v:AV} {c:Bool} {r:AV} {e:Eff}
  (h:zla C s.bxs t a v = some (c,r,e)) {x y:Value} (ha:VR g a x) (hv:VR g v y) :
  r = .tup []∧∃ w',(Instr.storeAt t x y).run P w = .ok () w'∧StR g (e.apply s) tm tms w'∧Tr g w g w':=by
 unfold zla at h
 split at h
 ·rename_i hok
  obtain ⟨hok,hsz,hnz⟩:=hok
  obtain ⟨i,hi,his,_⟩:=hC.size t hnz
  have hgs:=hv.gs hok
  have hns:y.cells.toList.length = i.size:=by rw [hgs.length,hsz,his]
  have hone:=hgs.one
  have hrun:∀ blk off cells,x = .pointer (some ⟨blk,off,none⟩)→BlkIs w blk cells→off + i.size≤cells.length →
    ∃ w',(Instr.storeAt t x y).run P w = .ok () w'∧StW w w' blk∧BlkIs w' blk (cells.take off++y.cells.toList++cells.drop (off + y.cells.toList.length)):=by
   intro blk off cells hx hb hl
   obtain ⟨w',h1,h2,h3⟩:=zib hi hb hns hl hone
   refine ⟨w',?_,h2,by rw [hns]; exact h3⟩
   subst hx
   simp only [Instr.storeAt,Instr.sureAddr,Sem.run_bind,Sem.run_pure,Result.andThen_ok]
   exact h1
  split at h
  ·rename_i b off p
   have ha':GR g (.ptr b off p) [x]:=ha
   obtain ⟨gb,blk,e1,e2,e3,e4,e5⟩:=ha'
   simp only [sC,and_true] at e5
   split at h
   ·rename_i gs hb
    split at h
    ·rename_i gs' hp
     simp only [sI,sM] at h
     obtain ⟨_,rfl,rfl⟩:=h
     obtain ⟨gb',k1,k2⟩:=hs.bxs.box _ _ hb
     rw [e1] at k1
     cases k1
     obtain ⟨q1,q2,blk',cells,k3,k4,k5,k6⟩:=k2
     rw [e3] at k3
     cases k3
     obtain ⟨h1,h2⟩:=zfm hs.bxs.w hs.fz hgs hp k5 e4
     obtain ⟨w',r1,r2,r3⟩:=hrun blk (off + zam p) cells e5 k4 (by rw [← hns]; omega)
     have hu:=hs.upd e1 e3 q2 k6 r2.os r2.tape r2.output (by rw [r2.size]; exact Nat.le_refl _) (fun b hb _=>r2.other b hb) (.var gs') ⟨q1,q2,blk,_,e3,r3,h2,k6⟩
     exact ⟨rfl,w',r1,hu.1,hu.2⟩
    ·cases h
   ·cases h
  ·rename_i b j o
   have ha':GR g (.rptr b j o) [x]:=ha
   obtain ⟨gb,blk,e1,e2,e3,e4,e5,e6⟩:=ha'
   simp only [sC,and_true] at e6
   split at h
   ·rename_i T l hb
    split at h
    ·rename_i z hz
     simp only [sI,sM] at h
     obtain ⟨_,rfl,rfl⟩:=h
     obtain ⟨gb',k1,k2⟩:=hs.bxs.box _ _ hb
     rw [e1] at k1
     cases k1
     obtain ⟨q1,q2,q3,q4,q5⟩:=k2
     cases ho:gb.own with
     | false =>
      simp only [e3,ho] at q5
      rcases q5.1 with h0 | h0
      ·exact absurd h0 (by decide)
      ·subst h0; simp only [List.length_nil] at q3; omega
     | true =>
      simp only [e3,ho] at q5
      obtain ⟨cells,cs,k3,k4,k5,k6,k7,k8⟩:=q5
      have hT:∀ (x:T.den) (cs:List Value),CR g.fz T x cs→cs.length = T.size:=fun x cs h=>h.length
      have hj:j.toNat < l.length:=by omega
      obtain ⟨a1,c1,b1,rfl,ha1,hc1,_⟩:=k5.get hT j.toNat hj
      rw [← at_lt e4 (by omega)] at hc1
      obtain ⟨p1,p2⟩:=zo2 hs.bxs.w hs.fz hz hc1 hgs
      obtain ⟨a',b',c0,ea,ha',hc0,hset⟩:=k5.set hT j.toNat hj p2
      obtain ⟨rfl,ea2⟩:=List.append_inj ea (by rw [ha1,ha'])
      obtain ⟨rfl,rfl⟩:=List.append_inj ea2 (by rw [hc1.length,hT _ _ hc0])
      have hcl:(a1++(c1++b1)).length = l.length * T.size:=k5.length hT
      have hle:gb.off + (a1++(c1++b1)).length≤cells.length:=by
       rw [hcl]
       have:=Nat.mul_le_mul_right T.size q4
       rw [q3] at this
       omega
      have hin:a1.length + o + y.cells.toList.length≤(a1++(c1++b1)).length:=by simp only [List.length_append]; omega
      obtain ⟨w',r1,r2,r3⟩:=hrun blk (gb.off + (a1.length + o)) cells (by rw [e6,ha1,q2,Nat.add_assoc]) k3 (by rw [← hns]; omega)
      rw [zic a1 c1 b1 y.cells.toList o p1] at hset
      have hsub:=zkS (ns:=y.cells.toList) k6 hin (by omega)
      have hu:=hs.upd e1 e3 ho (k7 trivial) r2.os r2.tape r2.output (by rw [r2.size]; exact Nat.le_refl _) (fun b hb _=>r2.other b hb) (.row T false (l.set j.toNat z)) (by
       refine ⟨q1,q2,by rw [q3]; simp,q4,?_⟩
       simp only [e3,ho]
       refine ⟨_,_,r3,?_,hset,hsub,fun _=>k7 trivial,fun h=>nomatch h⟩
       simp only [List.length_append,List.length_take,List.length_drop]
       omega)
      exact ⟨rfl,w',r1,hu.1,hu.2⟩
    ·cases h
   ·cases h
  ·cases h
 ·split at h
  ·split at h
   ·rename_i b off
    split at h
    ·rename_i hty
     split at h
     ·rename_i gs hb
      simp only [ok,sI,sM] at h
      obtain ⟨_,rfl,rfl⟩:=h
      obtain ⟨_,i,z,hi,hs',_⟩:=hC.ty t _ hty
      have hz:i.size = 0:=by
       have h1:=(hC.ty t _ hty).1
       rw [hs',← h1]
       rfl
      obtain ⟨gb,blk,e1,e2,e3,e4,e5⟩:=(show GR g (.ptr b off []) [x] from ha)
      simp only [sC,and_true] at e5
      obtain ⟨arr,rfl,hr⟩:=hv
      have hr':arr.toList = []:=hr
      have hsz:arr.size = 0:=by rw [← Array.length_toList,hr']; rfl
      refine ⟨rfl,w,?_,hs,Tr.refl _ _⟩
      subst e5
      simp only [Instr.storeAt,Instr.sureAddr,Sem.run_bind,Sem.run_pure,Result.andThen_ok,storeVar,run_sizeOf hi,Value.cells,hz,hsz,ne_eq,not_true,if_false,hr']
      rfl
     ·cases h
    ·cases h
   ·cases h
  ·cases h
end
end Go.V
namespace Go.V
variable [Codes]
section
variable {C:Cfg} {P:Program}
theorem zcp {w:World} {s t f o:Nat} {fs:List (Nat × Nat)} (hC:CfgOK C P) (hu:C.under s = .st fs) (hf:fs[f]? = some (o,t)) (hz:C.size t ≠ 0) (blk off:Nat) :
  (Instr.fieldAt s (.pointer (some ⟨blk,off,none⟩)) f).run P w = .ok (.pointer (some ⟨blk,off + o,none⟩)) w:=by
 obtain ⟨fields,hd,hfs⟩:=hC.st _ _ hu
 obtain ⟨i,hi,his,_⟩:=hC.size t hz
 subst hfs
 rw [List.getElem?_map,Option.map_eq_some_iff] at hf
 obtain ⟨fl,hfl,he⟩:=hf
 have hfl':fields[f]? = some fl:=by simpa using hfl
 have h1:fl.offset = o:=congrArg Prod.fst he
 have h2:fl.type = t:=congrArg Prod.snd he
 have hsz:¬ (C.size t = 0):=hz
 simp [Instr.fieldAt,run_underlying hd,hfl',Instr.sureAddr,fieldPlace,h2,run_sizeOf hi,his,hsz,zaZ,h1]
theorem zlU:∀ {p:List Stp},p ≠ []→∀ (o:Nat),zam (addP p o) = zam p + o∧((∀ s∈p,0≤s.i∧s.i < s.n)→∀ s∈addP p o,0≤s.i∧s.i < s.n)
 | [],h,_=>(h rfl).elim
 | [s],_,o=>⟨by simp [addP,zam]; omega,fun h u hu=>by simp only [addP,List.mem_singleton] at hu; subst hu; exact h s (by simp)⟩
 | s :: u :: p,_,o=>by
  obtain ⟨h1,h2⟩:=zlU (p:=u :: p) (by simp) o
  refine ⟨by simp only [addP,za9] at h1 ⊢; omega,fun h v hv=>?_⟩
  simp only [addP,List.mem_cons] at hv
  rcases hv with rfl | hv
  ·exact h v (by simp)
  ·exact h2 (fun s hs=>h s (List.mem_cons_of_mem _ hs)) v (by simpa [addP] using hv)
theorem zc0 (hC:CfgOK C P) {g:Gh} {w:World} {t f:Nat} {a:AV} {c:Bool} {v:AV} {e:Eff} (h:zdv C t a f = some (c,v,e)) {x:Value} (ha:VR g a x) :
  e = .none∧∃ y,(Instr.fieldAt t x f).run P w = .ok y w∧VR g v y:=by
 unfold zdv at h
 split at h
 ·rename_i o ft hf
  unfold zd6 at hf
  split at hf
  ·rename_i fs hu
   split at h
   ·cases h
   ·rename_i hz
    split at h
    ·rename_i gs
     split at h
     ·rename_i gs' hd
      simp only [ok,sI,sM] at h
      obtain ⟨_,rfl,rfl⟩:=h
      have ha':GR g (.eptr gs) [x]:=ha
      obtain ⟨blk,off,cs',e1,h1,h2⟩:=ha'
      simp only [sC,and_true] at e1
      subst e1
      refine ⟨rfl,_,zcp hC hu hf hz blk off,?_⟩
      exact ⟨blk,off + o,cs'.drop o,rfl,psR_drop hd h1,fun j v e=>by
       have:=h2 (o + j) v (by simpa using e)
       rwa [← Nat.add_assoc] at this⟩
     ·cases h
    ·rename_i b off
     simp only [ok,sI,sM] at h
     obtain ⟨_,rfl,rfl⟩:=h
     have ha':GR g (.ptr b off []) [x]:=ha
     obtain ⟨gb,blk,e1,e2,e3,e4,e5⟩:=ha'
     simp only [sC,and_true,zam,Nat.add_zero] at e5
     subst e5
     exact ⟨rfl,_,zcp hC hu hf hz blk _,gb,blk,e1,e2,e3,by simp,by simp [zam]⟩
    ·rename_i b off p hp
     simp only [ok,sI,sM] at h
     obtain ⟨_,rfl,rfl⟩:=h
     have ha':GR g (.ptr b off p) [x]:=ha
     obtain ⟨gb,blk,e1,e2,e3,e4,e5⟩:=ha'
     simp only [sC,and_true] at e5
     subst e5
     have hne:p ≠ []:=hp
     obtain ⟨k1,k2⟩:=zlU hne o
     exact ⟨rfl,_,zcp hC hu hf hz blk _,gb,blk,e1,e2,e3,k2 e4,by rw [k1,← Nat.add_assoc]⟩
    ·rename_i b i j
     simp only [ok,sI,sM] at h
     obtain ⟨_,rfl,rfl⟩:=h
     have ha':GR g (.rptr b i j) [x]:=ha
     obtain ⟨gb,blk,e1,e2,e3,e4,e5,e6⟩:=ha'
     simp only [sC,and_true] at e6
     subst e6
     exact ⟨rfl,_,zcp hC hu hf hz blk _,gb,blk,e1,e2,e3,e4,e5,by rw [Nat.add_assoc (gb.off + _)]⟩
    ·cases h
  ·cases hf
 ·cases h
 where
 psR_drop {fz:Nat→Nat→Option Value}:∀ {gs:List AV} {n:Nat} {gs':List AV} {cs:List Value},zbB gs n = some gs'→PsR fz gs cs→PsR fz gs' (cs.drop n)
  | gs,0,gs',cs,h,k=>by
   simp only [zbB,sI] at h
   subst h
   simpa using k
  | [],n + 1,gs',cs,h,k=>by simp [zbB] at h
  | .val T x :: gs,n + 1,gs',cs,h,⟨c1,c2,e,h1,h2⟩=>by
   simp only [zbB] at h
   by_cases hle:(AV.val T x).size≤n + 1
   ·simp only [Nat.ble_eq_true_of_le hle,cond_true] at h
    have h4:=psR_drop h h2
    have hl:=h1.length
    subst e
    have hl':c1.length = (AV.val T x).size:=hl
    rw [List.drop_append,List.drop_of_length_le (by omega),List.nil_append,hl']
    exact h4
   ·have hb:=zec hle
    simp [hb] at h
theorem zid {g:Gh} {v:AV} {i:Int} (h:idx v = some i) {x:Value} (hx:VR g v x):∃ k,x = .int k i:=by
 unfold idx at h
 split at h
 ·rename_i k n
  simp only [sI] at h
  subst h
  have hx':GR g (.val (.int k) n) [x]:=hx
  have:[x] = [Value.int k n]:=hx'
  exact ⟨k,by simpa using this⟩
 ·cases h
theorem zeh {i:Int} {n:Nat} (h:inR i n = true):0≤i∧i < n:=by
 simp only [inR,sA,decide_eq_true_eq] at h
 exact h
theorem zdm {w:World} {t n e:Nat} (hd:P.underlying t = some (.array n e)) {i:Int} (h0:0≤i) (h1:i < n) {inf:TypeInfo} (hi:P.info? e = some inf) (k:IntKind) (blk off:Nat) :
  (Instr.indexAt t (.pointer (some ⟨blk,off,none⟩)) (.int k i)).run P w = .ok (.pointer (some ⟨blk,off + i.toNat * inf.size,none⟩)) w:=by
 simp [Instr.indexAt,asIntOf,run_underlying hd,Instr.sureAddr,h0,h1,run_sizeOf hi,zaZ]
theorem zbZ {w:World} {t e:Nat} (hd:P.underlying t = some (.slice e)) {i:Int} {len cap:Nat} (h0:0≤i) (h1:i < len) {inf:TypeInfo} (hi:P.info? e = some inf) (k:IntKind) (a:Addr) :
  (Instr.indexAt t (.slice (some a) len cap) (.int k i)).run P w = .ok (.pointer (some (a.add (i.toNat * inf.size)))) w:=by
 simp [Instr.indexAt,asIntOf,run_underlying hd,h0,h1,run_sizeOf hi]
theorem zc1 {g:Gh} {s:St} {tm:Array Value} {tms:List (Array Value)} {w:World} (hs:StR g s tm tms w) {e:Nat} {v:AV} {T:Ty} {l:List T.den} (h:viewT C s.bxs e v = some ⟨T,l⟩) {x:Value} (hx:VR g v x) :
  ∃ a cap,x = .slice a l.length cap∧l.length≤cap∧((l = []∧cap = 0) ∨ ∃ blk off cs,a = some ⟨blk,off,none⟩∧Elems (CR g.fz T) l cs∧zaE w blk off cs∧((∀ b wn,v ≠ .row b wn)→Fz g.fz blk off cs)):=by
 unfold viewT at h
 split at h
 ·rename_i T' l'
  simp only [sI,Sigma.mk.injEq] at h
  obtain ⟨rfl,h⟩:=h
  obtain rfl:=eq_of_heq h
  have hx':GR g (.val (.sl T') l') [x]:=hx
  obtain ⟨v,e1,h1⟩:=hx'
  simp only [sC,and_true] at e1
  subst e1
  rcases h1 with ⟨rfl,a,rfl⟩ | ⟨blk,off,cap,cs,rfl,h2,h3,h4⟩
  ·exact ⟨a,0,rfl,Nat.le_refl _,.inl ⟨rfl,rfl⟩⟩
  ·exact ⟨_,cap,rfl,h2,.inr ⟨blk,off,cs,rfl,h3,h4.cells hs.fz h3.one,fun _=>h4⟩⟩
 ·rename_i T' l'
  simp only [sI,Sigma.mk.injEq] at h
  obtain ⟨rfl,h⟩:=h
  obtain rfl:=eq_of_heq h
  have hx':GR g (.full T' l') [x]:=hx
  rcases hx' with ⟨rfl,a,e1⟩ | ⟨blk,off,cs',e1,h1,h2⟩
  ·simp only [sC,and_true] at e1
   exact ⟨a,0,e1,Nat.le_refl _,.inl ⟨rfl,rfl⟩⟩
  ·simp only [sC,and_true] at e1
   exact ⟨_,_,e1,Nat.le_refl _,.inr ⟨blk,off,cs',rfl,h1,h2.cells hs.fz h1.one,fun _=>h2⟩⟩
 ·rename_i T' l'
  simp only [sI,Sigma.mk.injEq] at h
  obtain ⟨rfl,h⟩:=h
  obtain rfl:=eq_of_heq h
  have hx':GR g (.nn T' l') [x]:=hx
  rcases hx' with ⟨rfl,a,e1⟩ | ⟨blk,off,cap,cs',e1,h0,h1,h2⟩
  ·simp only [sC,and_true] at e1
   exact ⟨_,0,e1,Nat.le_refl _,.inl ⟨rfl,rfl⟩⟩
  simp only [sC,and_true] at e1
  exact ⟨_,_,e1,h0,.inr ⟨blk,off,cs',rfl,h1,h2.cells hs.fz h1.one,fun _=>h2⟩⟩
 ·split at h
  ·rename_i T' ht
   simp only [sI,Sigma.mk.injEq] at h
   obtain ⟨rfl,h⟩:=h
   obtain rfl:=eq_of_heq h
   have hx':[x] = [Value.slice none 0 0]:=hx
   simp only [sC,and_true] at hx'
   exact ⟨none,0,hx',Nat.le_refl _,.inl ⟨rfl,rfl⟩⟩
  ·cases h
 ·rename_i b wn
  split at h
  ·rename_i T' fz l' hb
   simp only [sI,Sigma.mk.injEq] at h
   obtain ⟨rfl,h⟩:=h
   obtain rfl:=eq_of_heq h
   have hx':GR g (.row b wn) [x]:=hx
   obtain ⟨gb,v,e1,e2,e3,hw⟩:=hx'
   simp only [sC,and_true] at e3
   subst e3
   obtain ⟨gb',k1,k2⟩:=hs.bxs.box _ _ hb
   rw [e1] at k1
   cases k1
   have hsz:gb.sz = T'.size:=k2.2.1
   have hlen:gb.len = l'.length:=k2.2.2.1
   have hcap:gb.len≤gb.cap:=k2.2.2.2.1
   cases hblk:gb.blk with
   | none =>
    have hr:=k2.2.2.2.2
    simp only [hblk] at hr
    obtain ⟨rfl,_⟩:=hr
    cases wn with
    | whole=>simp only [WinR,hblk] at hw; obtain ⟨rfl,_⟩:=hw; exact ⟨_,0,rfl,Nat.le_refl _,.inl ⟨rfl,rfl⟩⟩
    | part off n full=>simp only [WinR,hblk] at hw; obtain ⟨_,_,_,rfl⟩:=hw; exact ⟨gb.ad,0,by simp [Win.app],by simp [Win.app],.inl ⟨by simp [Win.app],rfl⟩⟩
   | some blk =>
    obtain ⟨cs,k3,k4⟩:=zlR hs.fz k2 hblk
    cases wn with
    | whole =>
     simp only [WinR,hblk] at hw
     exact ⟨_,gb.cap,by rw [hw,hlen]; rfl,by show l'.length≤_; omega,.inr ⟨blk,gb.off,cs,rfl,k3,k4,fun h=>(h _ _ rfl).elim⟩⟩
    | part off n full =>
     simp only [WinR,hblk] at hw
     obtain ⟨w1,a,c,rfl,wsp,w2,w3,w4,w5⟩:=hw
     have hlw:(Win.app (.part off n full) l').length = n:=by simp only [Win.app,List.length_take,List.length_drop]; omega
     refine ⟨some a,c,by rw [hlw],by rw [hlw]; exact w2,.inr ?_⟩
     by_cases hn:n = 0
     ·have he:Win.app (.part off n full) l' = []:=List.eq_nil_of_length_eq_zero (by rw [hlw,hn])
      rw [he]
      obtain ⟨ab,ao,as⟩:=a
      simp only at wsp
      subst wsp
      exact ⟨ab,ao,[],rfl,rfl,fun j v e=>by simp at e,fun h=>(h _ _ rfl).elim⟩
     ·have ha:a = ⟨blk,gb.off + off * gb.sz,none⟩:=by
       rcases w5 with h0 | h0
       ·omega
       ·exact h0
      have hT:∀ (x:T'.den) (cs:List Value),CR g.fz T' x cs→cs.length = T'.size:=fun x cs h=>h.length
      have hs1:=k3.split hT off (by omega)
      have hs2:=hs1.2.split hT n (by rw [List.length_drop]; omega)
      exact ⟨blk,gb.off + off * gb.sz,_,by rw [ha],hs2.1,by rw [hsz]; exact (k4.drop (off * T'.size)).take (n * T'.size),fun h=>(h _ _ rfl).elim⟩
  ·cases h
 ·cases h
theorem zei (hC:CfgOK C P) {g:Gh} {s:St} {tm:Array Value} {tms:List (Array Value)} {w:World} (hs:StR g s tm tms w) {t:Nat} {a iv:AV} {v:AV} {e:Eff} (h:zbE C s.bxs t a iv = some (true,v,e)) {x y:Value}
  (ha:VR g a x) (hy:VR g iv y):e = .none∧∃ z,(∀ w1,(Instr.indexAt t x y).run P w1 = .ok z w1)∧VR g v z:=by
 unfold zbE at h
 split at h
 ·cases h
 ·rename_i i hi
  obtain ⟨k,rfl⟩:=zid hi hy
  split at h
  ·rename_i n e' hu
   have hd:=hC.arr _ _ _ hu
   split at h
   ·cases h
   ·rename_i hz
    obtain ⟨inf,hinf,his,_⟩:=hC.size _ hz
    split at h
    ·rename_i m T l gs
     split at h
     ·rename_i hnm
      simp only [okIf,sI,sM] at h
      obtain ⟨hc,rfl,rfl⟩:=h
      obtain ⟨h0,h1⟩:=zeh hc
      have ha':GR g (.eptr (.val (.arr m T) l :: gs)) [x]:=ha
      obtain ⟨blk,off,cs',e1,h2,h3⟩:=ha'
      simp only [sC,and_true] at e1
      subst e1
      obtain ⟨c1,c2,rfl,k1,k2⟩:=h2
      obtain ⟨a1,c,b1,rfl,ha1,hcc⟩:=zfH k1 h0 (by omega)
      refine ⟨rfl,_,fun w1=>zdm hd h0 h1 hinf k blk off,blk,_,c,rfl,zhY hcc,?_⟩
      intro j v hj
      have hlt:=(List.getElem?_eq_some_iff.1 hj).1
      have:=h3 (a1.length + j) v (by
       rw [List.append_assoc,List.append_assoc,List.getElem?_append_right (by omega),Nat.add_sub_cancel_left,List.getElem?_append_left hlt]
       exact hj)
      rw [ha1,hnm.2,← his,← Nat.add_assoc] at this
      exact this
     ·cases h
    ·rename_i b off p
     simp only [okIf,sI,sM] at h
     obtain ⟨hc,rfl,rfl⟩:=h
     obtain ⟨h0,h1⟩:=zeh hc
     have ha':GR g (.ptr b off p) [x]:=ha
     obtain ⟨gb,blk,e1,e2,e3,e4,e5⟩:=ha'
     simp only [sC,and_true] at e5
     subst e5
     refine ⟨rfl,_,fun w1=>zdm hd h0 h1 hinf k blk _,gb,blk,e1,e2,e3,?_,?_⟩
     ·intro u hu
      rw [List.mem_append,List.mem_singleton] at hu
      rcases hu with hu | rfl
      ·exact e4 u hu
      ·exact ⟨h0,h1⟩
     ·rw [steps_snoc,his]
      simp only [Nat.add_zero,Nat.add_assoc]
    ·cases h
  ·rename_i e' hu
   have hd:=hC.sl _ _ hu
   split at h
   ·cases h
   ·rename_i hz
    obtain ⟨inf,hinf,his,_⟩:=hC.size _ hz
    split at h
    ·rename_i b
     split at h
     ·rename_i T fz l hb
      split at h
      ·rename_i hT
       simp only [okIf,sI,sM] at h
       obtain ⟨hc,rfl,rfl⟩:=h
       obtain ⟨h0,h1⟩:=zeh hc
       have ha':GR g (.row b .whole) [x]:=ha
       obtain ⟨gb,v,e1,e2,e3,hw⟩:=ha'
       simp only [sC,and_true] at e3
       subst e3
       obtain ⟨gb',k1,k2⟩:=hs.bxs.box _ _ hb
       rw [e1] at k1
       cases k1
       have hlen:gb.len = l.length:=k2.2.2.1
       cases hblk:gb.blk with
       | none=>simp only [WinR,hblk] at hw; omega
       | some blk =>
        simp only [WinR,hblk] at hw
        subst hw
        refine ⟨rfl,_,fun w1=>zbZ hd h0 (by omega) hinf k _,gb,blk,e1,e2,hblk,h0,by omega,?_⟩
        rw [zaZ,his,← hT,← k2.2.1,Nat.add_zero]
      ·cases h
     ·cases h
    ·rename_i b off n full
     split at h
     ·rename_i T fz l hb
      split at h
      ·rename_i hT
       simp only [okIf,sI,sM] at h
       obtain ⟨hc,rfl,rfl⟩:=h
       obtain ⟨h0,h1⟩:=zeh hc
       have ha':GR g (.row b (.part off n full)) [x]:=ha
       obtain ⟨gb,v,e1,e2,e3,hw⟩:=ha'
       simp only [sC,and_true] at e3
       subst e3
       obtain ⟨gb',k1,k2⟩:=hs.bxs.box _ _ hb
       rw [e1] at k1
       cases k1
       cases hblk:gb.blk with
       | none=>simp only [WinR,hblk] at hw; omega
       | some blk =>
        simp only [WinR,hblk] at hw
        obtain ⟨w1,a,c,rfl,wsp,w2,w3,w4,w5⟩:=hw
        have ha:a = ⟨blk,gb.off + off * gb.sz,none⟩:=by
         rcases w5 with h2 | h2
         ·omega
         ·exact h2
        subst ha
        refine ⟨rfl,_,fun w1=>zbZ hd h0 h1 hinf k _,gb,blk,e1,e2,hblk,by omega,by omega,?_⟩
        rw [zaZ,his,← hT,← k2.2.1,Nat.add_zero,show ((off:Int) + i).toNat = off + i.toNat by omega,Nat.add_mul,Nat.add_assoc]
      ·cases h
     ·cases h
    ·rename_i b off m lo n
     split at h
     ·rename_i h1s
      simp only [okIf,sI,sM] at h
      obtain ⟨hc,rfl,rfl⟩:=h
      obtain ⟨h0,h1⟩:=zeh hc
      have ha':GR g (.vsl b off m lo n) [x]:=ha
      obtain ⟨gb,blk,cap,e1,e2,e3,e4,e5,a,e6,e7,e8⟩:=ha'
      simp only [sC,and_true] at e6
      subst e6
      have ha:a = ⟨blk,off + lo,none⟩:=by
       rcases e8 with h2 | h2
       ·omega
       ·exact h2
      subst ha
      refine ⟨rfl,_,fun w1=>zbZ hd h0 h1 hinf k _,gb,blk,e1,e2,e3,?_,?_⟩
      ·intro u hu
       simp only [List.mem_singleton] at hu
       subst hu
       exact ⟨by simp only; omega,by simp only; omega⟩
      ·rw [zaZ,his,h1s]
       simp only [zam,Nat.mul_one,Nat.add_zero]
       rw [show ((lo:Int) + i).toNat = lo + i.toNat by omega,Nat.add_assoc]
     ·cases h
    ·rename_i hx1 hx2 hx3
     split at h
     ·rename_i T l hv
      split at h
      ·rename_i hT
       simp only [okIf,sI,sM] at h
       obtain ⟨hc,rfl,rfl⟩:=h
       obtain ⟨h0,h1⟩:=zeh hc
       obtain ⟨a,cap,rfl,h2,h3⟩:=zc1 hs hv ha
       rcases h3 with ⟨rfl,_⟩ | ⟨blk,off,cs,rfl,h4,_,h5⟩
       ·simp at h1; omega
       ·have hfz:=h5 (fun b wn e=>by
         cases wn with
         | whole=>exact hx1 b e
         | part o n f=>exact hx2 b o n f e)
        obtain ⟨a1,c,b1,rfl,ha1,hcc,_⟩:=h4.get (n:=T.size) (fun x cs h=>h.length) i.toNat (by omega)
        rw [← at_lt h0 h1] at hcc
        refine ⟨rfl,_,fun w1=>zbZ hd h0 h1 hinf k _,blk,_,c,by rw [zaZ],zhY hcc,?_⟩
        intro j v hj
        have hlt:=(List.getElem?_eq_some_iff.1 hj).1
        have:=hfz (a1.length + j) v (by
         rw [List.getElem?_append_right (by omega),Nat.add_sub_cancel_left,List.getElem?_append_left hlt]
         exact hj)
        rw [ha1,hT,← his,← Nat.add_assoc] at this
        exact this
      ·cases h
     ·cases h
  ·cases h
 where
 steps_snoc:∀ (p:List Stp) (s:Stp),zam (p++[s]) = zam p + (s.i.toNat * s.sz + s.o)
  | [],s=>by simp [zam]
  | u :: p,s=>by rw [List.cons_append,za9,steps_snoc p s,za9]; omega
end
end Go.V
namespace Go.V
variable [Codes]
section
variable {C:Cfg} {P:Program}
theorem zjg (hC:CfgOK C P) {g:Gh} {w:World} {t:Nat} {gs:List AV} {c:Bool} {v:AV} {e:Eff} (h:loadAt C t gs = some (c,v,e)) {arr:Array Value} {off:Nat} {cs:List Value} (hcs:∃ r,arr.toList.drop off = cs++r)
  (hg:GsR g gs cs):e = .none∧∃ x,(part t arr off).run P w = .ok x w∧VR1 g v x:=by
 obtain ⟨r,hr⟩:=hcs
 have hcut:∀ n,n≤cs.length→(arr.extract off (off + n)).toList = cs.take n:=by
  intro n hn
  rw [Array.toList_extract,List.extract_eq_take_drop,show off + n - off = n by omega,hr,List.take_append_of_le_length hn]
 unfold loadAt at h
 split at h
 ·rename_i fs hu
  split at h
  ·rename_i hz
   split at h
   ·rename_i hty
    simp only [ok,sI,sM] at h
    obtain ⟨_,rfl,rfl⟩:=h
    obtain ⟨fields,hd,_⟩:=hC.st _ _ hu
    obtain ⟨_,i,z,hi,hs,_⟩:=hC.ty t _ hty
    refine ⟨rfl,.agg (arr.extract off (off + 0)),?_,_,rfl,by rw [hcut _ (Nat.zero_le _)]; rfl⟩
    simp [part,zb7 hd,aggB,run_sizeOf hi,hs,hz]
   ·cases h
  ·rename_i hz
   split at h
   ·rename_i gs' ht
    simp only [ok,sI,sM] at h
    obtain ⟨_,rfl,rfl⟩:=h
    obtain ⟨h1,h2⟩:=zcG ht hg
    obtain ⟨fields,hd,_⟩:=hC.st _ _ hu
    obtain ⟨i,hi,hs,_⟩:=hC.size t hz
    refine ⟨rfl,.agg (arr.extract off (off + C.size t)),?_,_,rfl,by rw [hcut _ h1]; exact h2⟩
    simp [part,zb7 hd,aggB,run_sizeOf hi,hs]
   ·cases h
 ·rename_i n e' hu
  split at h
  ·rename_i m T l gs'
   split at h
   ·rename_i hnm
    simp only [ok,sI,sM] at h
    obtain ⟨_,rfl,rfl⟩:=h
    obtain ⟨c1,c2,rfl,h1,h2⟩:=hg
    have hl:=CR.length h1
    obtain ⟨i,hi,hs,_⟩:=hC.size t hnm.2.2
    have hle:C.size t = c1.length:=by rw [hl,hnm.2.1]; rfl
    refine ⟨rfl,.agg (arr.extract off (off + C.size t)),?_,_,rfl,?_⟩
    ·simp [part,zb7 (hC.arr _ _ _ hu),aggB,run_sizeOf hi,hs]
    ·rw [hcut _ (by rw [List.length_append]; omega),hle,List.take_left]
     exact h1
   ·cases h
  ·split at h
   ·cases h
   ·rename_i hz
    split at h
    ·rename_i gs' ht
     simp only [ok,sI,sM] at h
     obtain ⟨_,rfl,rfl⟩:=h
     obtain ⟨h1,h2⟩:=zcG ht hg
     obtain ⟨i,hi,hs,_⟩:=hC.size t hz
     refine ⟨rfl,.agg (arr.extract off (off + C.size t)),?_,_,rfl,by rw [hcut _ h1]; exact h2⟩
     simp [part,zb7 (hC.arr _ _ _ hu),aggB,run_sizeOf hi,hs]
    ·cases h
 ·cases h
 ·cases h
 ·rename_i h1 h2 h3 h4
  split at h
  ·rename_i v' gs'
   split at h
   ·rename_i hs
    simp only [ok,sI,sM] at h
    obtain ⟨_,rfl,rfl⟩:=h
    obtain ⟨c1,c2,rfl,k1,k2⟩:=hg
    obtain ⟨x,rfl⟩:=k1.single_one hs
    have hc:arr[off]? = some x:=by
     have:(arr.toList.drop off)[0]? = some x:=by rw [hr]; rfl
     simpa using this
    have one:∀ d,P.underlying t = some d→aggB d = false→(part t arr off).run P w = .ok x w:=by
     intro d hd ha
     unfold part
     rw [Sem.run_bind,zb7 hd,ha]
     simp [hc]
    refine ⟨rfl,x,?_,(zbR hs).2 k1⟩
    cases hu:C.under t with
    | int k=>exact one _ (hC.int _ _ hu) rfl
    | bool=>exact one _ (hC.bool _ hu) rfl
    | str=>exact one _ (hC.str _ hu) rfl
    | ptr e=>exact one _ (hC.ptr _ _ hu) rfl
    | sl e=>exact one _ (hC.sl _ _ hu) rfl
    | arr n e=>exact (h2 _ _ hu).elim
    | st fs=>exact (h1 _ hu).elim
    | fn=>obtain ⟨_,_,_,hd⟩:=hC.fn _ hu; exact one _ hd rfl
    | iface=>obtain ⟨_,hd⟩:=hC.iface _ hu; exact one _ hd rfl
    | map k e=>exact one _ (hC.map _ _ _ hu) rfl
    | tup=>exact (h4 hu).elim
    | oth=>exact (h3 hu).elim
   ·cases h
  ·cases h
theorem VR1.vr' {g:Gh} {v:AV} {c:Value} (h:VR1 g v c):VR g v c:=by
 cases v <;> first | exact h | exact h.elim
theorem zlV (hC:CfgOK C P) {g:Gh} {w:World} {t f:Nat} {a:AV} {c:Bool} {v:AV} {e:Eff} (h:zlb C t a f = some (c,v,e)) {x:Value} (ha:VR g a x) :
  e = .none∧∃ y,(Instr.field t x f).run P w = .ok y w∧VR g v y:=by
 unfold zlb at h
 split at h
 ·rename_i o ft gs hf
  split at h
  ·rename_i gs' hd
   unfold zd6 at hf
   split at hf
   ·rename_i fs hu
    obtain ⟨fields,hdd,hfs⟩:=hC.st _ _ hu
    subst hfs
    rw [List.getElem?_map,Option.map_eq_some_iff] at hf
    obtain ⟨fl,hfl,he⟩:=hf
    have hfl':fields[f]? = some fl:=by simpa using hfl
    have h1:fl.offset = o:=congrArg Prod.fst he
    have h2:fl.type = ft:=congrArg Prod.snd he
    obtain ⟨arr,rfl,h3⟩:=ha
    obtain ⟨h4,h5⟩:=za8 hd h3
    obtain ⟨e1,y,h6,h7⟩:=zjg (P:=P) (w:=w) hC h (arr:=arr) (off:=o) ⟨[],by simp⟩ h5
    refine ⟨e1,y,?_,h7.vr'⟩
    simp [Instr.field,run_underlying hdd,hfl',asAgg,h1,h2,h6]
   ·cases hf
  ·cases h
 ·cases h
theorem zlW (hC:CfgOK C P) {g:Gh} {w:World} {t:Nat} {a iv:AV} {v:AV} {e:Eff} (h:zlc C t a iv = some (true,v,e)) {x y:Value} (ha:VR g a x) (hy:VR g iv y) :
  e = .none∧∃ z,(Instr.index t x y).run P w = .ok z w∧VR g v z:=by
 unfold zlc at h
 split at h
 ·cases h
 ·rename_i i hi
  obtain ⟨k,rfl⟩:=zid hi hy
  split at h
  ·rename_i s hu
   simp only [okIf,sI,sM] at h
   obtain ⟨hc,rfl,rfl⟩:=h
   obtain ⟨h0,h1⟩:=zeh hc
   have ha':[x] = [Value.string s]:=ha
   simp only [sC,and_true] at ha'
   subst ha'
   refine ⟨rfl,.int .u8 (byteAt s i),?_,rfl⟩
   have hlt:i.toNat < s.size:=by omega
   have hb:byteAt s i = ((s[i.toNat]'hlt).toNat:Int):=by
    unfold byteAt
    rw [List.getD_eq_getElem?_getD,Array.getElem?_toList,Array.getElem?_eq_getElem hlt]
    rfl
   simp [Instr.index,asIntOf,run_underlying (hC.str _ hu),h0,hlt,hb]
  ·rename_i n e' m T l hu
   split at h
   ·rename_i hnm
    split at h
    ·rename_i c0 v0 e0 hl
     simp only [okIf,sI,sM] at h
     obtain ⟨hc,rfl,rfl⟩:=h
     obtain ⟨h0,h1⟩:=zeh hc
     obtain ⟨arr,rfl,h2⟩:=ha
     obtain ⟨inf,hinf,his,_⟩:=hC.size _ hnm.2.2
     obtain ⟨a1,c,b1,hea,ha1,hcc⟩:=zfH h2 h0 (by omega)
     obtain ⟨_,z,h3,h4⟩:=zjg (P:=P) (w:=w) hC hl (arr:=arr) (off:=i.toNat * inf.size) (cs:=c) ⟨b1,by rw [hea,his,← hnm.2.1,← ha1,List.drop_left]⟩ (ze0 hcc)
     refine ⟨rfl,z,?_,h4.vr'⟩
     simp [Instr.index,asIntOf,run_underlying (hC.arr _ _ _ hu),h0,h1,run_sizeOf hinf,h3]
    ·cases h
   ·cases h
  ·rename_i n e' gs hu
   split at h
   ·rename_i hnz
    split at h
    ·rename_i gs' hgs
     split at h
     ·rename_i c0 v0 e0 hl
      simp only [okIf,sI,sM] at h
      obtain ⟨hc,rfl,rfl⟩:=h
      obtain ⟨h0,h1⟩:=zeh hc
      obtain ⟨arr,rfl,h2⟩:=ha
      obtain ⟨inf,hinf,his,_⟩:=hC.size _ hnz
      obtain ⟨_,h3⟩:=za8 hgs h2
      obtain ⟨_,z,h4,h5⟩:=zjg (P:=P) (w:=w) hC hl (arr:=arr) (off:=i.toNat * inf.size) (cs:=arr.toList.drop (i.toNat * C.size e')) ⟨[],by rw [his,List.append_nil]⟩ h3
      refine ⟨rfl,z,?_,h5.vr'⟩
      simp [Instr.index,asIntOf,run_underlying (hC.arr _ _ _ hu),h0,h1,run_sizeOf hinf,h4]
     ·cases h
    ·cases h
   ·cases h
  ·cases h
theorem zfK {op:BinOp} {t:TypeId} {x y:Operand} {a b:Value} {w:World} (h:a ≠ .nilIface) (h2:∀ cs,a ≠ .agg cs) :
  (eqGuard op t x y a b).run P w = .ok () w:=by
 unfold eqGuard
 cases op <;> simp only [Bool.not_true,Bool.not_false,if_true,if_false,sF] <;> first | rfl | skip
 all_goals
  cases a <;> cases b <;> first | rfl | (exact absurd rfl h) | (exact absurd rfl (h2 _))
end
end Go.V
namespace Go.V
variable [Codes]
section
variable {C:Cfg} {P:Program}
theorem toList_inj {a b:ByteArray}:(a.toList == b.toList) = decide (a = b):=by
 rw [Bool.eq_iff_iff,beq_iff_eq,decide_eq_true_iff]
 constructor
 ·intro h
  rw [ByteArray.toList_eq,ByteArray.toList_eq] at h
  obtain ⟨⟨a⟩⟩:=a
  obtain ⟨⟨b⟩⟩:=b
  simp only at h
  rw [h]
 ·intro h; rw [h]
theorem zhp {g:Gh} {w:World} {op:BinOp} {k j:IntKind} {a b:Int} {t:TypeId} {v:AV} {e:Eff} (hj:(op = .shl ∨ op = .shr) ∨ k = j) (h:intOp op k a b = some (true,v,e)) :
  e = .none∧∃ z,(binOp op t (.int k a) (.int j b)).run P w = .ok z w∧VR g v z:=by
 cases op
 case shl =>
  simp only [intOp,okIf,sI,sM,decide_eq_true_eq] at h
  obtain ⟨h0,rfl,rfl⟩:=h
  exact ⟨rfl,_,by simp [binOp,Op.shift,show ¬ b < 0 by omega]; rfl,rfl⟩
 case shr =>
  simp only [intOp,okIf,sI,sM,decide_eq_true_eq] at h
  obtain ⟨h0,rfl,rfl⟩:=h
  exact ⟨rfl,_,by simp [binOp,Op.shift,show ¬ b < 0 by omega]; rfl,rfl⟩
 all_goals
  rcases hj with (hj | hj) | hj <;> first | (cases hj; done) | skip
  subst hj
 case quo =>
  simp only [intOp,okIf,sI,sM,decide_eq_true_eq] at h
  obtain ⟨h0,rfl,rfl⟩:=h
  exact ⟨rfl,_,by simp [binOp,Op.intDiv,h0],rfl⟩
 case rem =>
  simp only [intOp,okIf,sI,sM,decide_eq_true_eq] at h
  obtain ⟨h0,rfl,rfl⟩:=h
  exact ⟨rfl,_,by simp [binOp,Op.intDiv,h0],rfl⟩
 all_goals
  simp only [intOp,ok,okB,sI,sM,true_and] at h
  obtain ⟨rfl,rfl⟩:=h
  refine ⟨rfl,_,?_,rfl⟩
  simp only [binOp,ne_eq,not_true_eq_false,if_false,Op.intArith,Op.intBits,Op.intCmp]
  first | rfl | (simp only [Sem.run_pure]; congr 2; rw [Bool.eq_iff_iff]; simp)
theorem zne {g:Gh} {w:World} {op:BinOp} {a b:ByteArray} {t:TypeId} {v:AV} {e:Eff} (h:strOp op a b = some (true,v,e)) :
  e = .none∧∃ z,(binOp op t (.string a) (.string b)).run P w = .ok z w∧VR g v z:=by
 cases op <;> simp only [strOp,okIf,okB,sI,sM,true_and,reduceCtorEq] at h
 case add =>
  obtain ⟨h0,rfl,rfl⟩:=h
  simp only [catOk,decide_eq_true_eq] at h0
  refine ⟨rfl,.string (a++b),?_,rfl⟩
  have:¬ (((a.size + b.size:Nat):Int) > IntKind.i64.max):=by
   show ¬ (((a.size + b.size:Nat):Int) > 9223372036854775807)
   omega
  simp only [binOp,Op.stringOp,this,if_false]
  rfl
 all_goals
  obtain ⟨rfl,rfl⟩:=h
  refine ⟨rfl,_,by simp only [binOp,Op.stringOp]; rfl,?_⟩
  simp only [VR,VR1,GR,CR,toList_inj,strLt]
theorem zdR {op:BinOp} {c:Bool} {v:AV} {e:Eff} (h:eqV op c = some (true,v,e)):e = .none∧((op = .eql∧v = .val .bool c) ∨ (op = .neq∧v = .val .bool (!c))):=by
 cases op <;> simp only [eqV,okB,sI,sM,true_and,reduceCtorEq] at h
 ·obtain ⟨rfl,rfl⟩:=h; exact ⟨rfl,.inl ⟨rfl,rfl⟩⟩
 ·obtain ⟨rfl,rfl⟩:=h; exact ⟨rfl,.inr ⟨rfl,rfl⟩⟩
theorem za1 {w:World} {op:BinOp} {c:Bool} {t:TypeId} {a b:Value} {v:AV} {g:Gh} (hq:(Op.equal t a b).run P w = .ok c w) (hv:(op = .eql∧v = .val .bool c) ∨ (op = .neq∧v = .val .bool (!c)))
  (hb:binOp .eql t a b = (do pure (.bool (← Op.equal t a b)))) (hb':binOp .neq t a b = (do pure (.bool (!(← Op.equal t a b))))):∃ z,(binOp op t a b).run P w = .ok z w∧VR g v z:=by
 rcases hv with ⟨rfl,rfl⟩ | ⟨rfl,rfl⟩
 ·exact ⟨.bool c,by rw [hb,Sem.run_bind,hq]; rfl,rfl⟩
 ·exact ⟨.bool (!c),by rw [hb',Sem.run_bind,hq]; rfl,rfl⟩
theorem zbv (t:TypeId) (x y:Value):∃ d,Op.equal t x y = Op.equalIn (d + 1) t x y:=⟨9999,rfl⟩
theorem zej {w:World} {t e:TypeId} (hd:P.underlying t = some (.pointer e)) (b:Option Addr):(Op.equal t (.pointer b) (.pointer none)).run P w = .ok b.isNone w:=by
 obtain ⟨d,hq⟩:=zbv t (.pointer b) (.pointer none)
 rw [hq]
 cases b <;> simp [Op.equalIn,run_underlying hd]
theorem run_equal_bool {w:World} {t:TypeId} (hd:P.underlying t = some .bool) (a b:Bool):(Op.equal t (.bool a) (.bool b)).run P w = .ok (decide (a = b)) w:=by
 obtain ⟨d,hq⟩:=zbv t (.bool a) (.bool b)
 rw [hq]
 simp only [Op.equalIn,Sem.run_bind,run_underlying hd,Result.andThen_ok,Sem.run_pure]
 cases a <;> cases b <;> rfl
theorem zgg {w:World} {t e:TypeId} (hd:P.underlying t = some (.slice e)):(Op.equal t (.slice none 0 0) (.slice none 0 0)).run P w = .ok true w:=by
 obtain ⟨d,hq⟩:=zbv t (.slice none 0 0) (.slice none 0 0)
 rw [hq]
 simp [Op.equalIn,run_underlying hd]
theorem ze2 {w:World} {t e:TypeId} (hd:P.underlying t = some (.slice e)) (a:Addr) (n c:Nat):(Op.equal t (.slice (some a) n c) (.slice none 0 0)).run P w = .ok false w:=by
 obtain ⟨d,hq⟩:=zbv t (.slice (some a) n c) (.slice none 0 0)
 rw [hq]
 simp [Op.equalIn,run_underlying hd]
theorem zgh {w:World} {t:TypeId} {x y z} (hd:P.underlying t = some (.func x y z)):(Op.equal t .nilFunc .nilFunc).run P w = .ok true w:=by
 obtain ⟨d,hq⟩:=zbv t .nilFunc .nilFunc
 rw [hq]
 simp [Op.equalIn,run_underlying hd]
theorem zie {w:World} {t:TypeId} {x y z} (hd:P.underlying t = some (.func x y z)) (f:Fn) (a b:Array Value):(Op.equal t (.func f a b) .nilFunc).run P w = .ok false w:=by
 obtain ⟨d,hq⟩:=zbv t (.func f a b) .nilFunc
 rw [hq]
 simp [Op.equalIn,run_underlying hd]
theorem zb8 {w:World} {t:TypeId} {d:TypeDesc} (hd:P.underlying t = some d) (ha:aggB d = false) {xs:Array Value} {o:Nat} {v:Value} (h:xs[o]? = some v):(part t xs o).run P w = .ok v w:=by
 unfold part
 rw [Sem.run_bind,zb7 hd,ha]
 simp [h]
theorem ze3 (hC:CfgOK C P) {g:Gh} {w:World} (d:Nat) (xs ys:Array Value):∀ (fs:List Field) (i:Nat) (a b:List AV) (c:Bool),zcL i fs = true→eqGs C (fs.map fun f=>(f.offset,f.type)) a b = some c →
  GsR g a (xs.toList.drop i)→GsR g b (ys.toList.drop i)→(Op.eqFields (d + 1) xs ys fs).run P w = .ok c w
 | [],i,a,b,c,_,h,_,_=>by
  simp only [List.map_nil] at h
  unfold eqGs at h
  split at h
  ·simp only [sI] at h; subst h; simp [Op.eqFields]
  all_goals first | (rename_i hh _ _; cases hh; done) | (cases h; done) | skip
  all_goals (rename_i hh; cases hh)
 | f :: fs,i,a,b,c,hf,h,ha,hb=>by
  simp only [zcL,zlP,sA,Bool.not_eq_true'] at hf
  obtain ⟨⟨hn,ho⟩,hrest⟩:=hf
  have ho':=sB ho
  have hn' : ¬ f.name = "_" := by simpa using hn
  have one:∀ {u v:AV} {x y:Value} {a' b':List AV} {r c':Bool} {dd:TypeDesc},a = u :: a'→b = v :: b'→(∀ cs,GR g u cs→cs = [x])→(∀ cs,GR g v cs→cs = [y])→P.underlying f.type = some dd→aggB dd = false →
    (Op.equalIn (d + 1) f.type x y).run P w = .ok r w→eqGs C (fs.map fun f=>(f.offset,f.type)) a' b' = some c'→(Op.eqFields (d + 1) xs ys (f :: fs)).run P w = .ok (r && c') w:=by
   intro u v x y a' b' r c' dd hau hbv hu hv hd1 hd2 he hc'
   subst hau; subst hbv
   obtain ⟨c1,c2,e1,h1,h2⟩:=ha
   obtain ⟨d1,d2,e2,k1,k2⟩:=hb
   have h1':=hu _ h1
   have k1':=hv _ k1
   subst h1'; subst k1'
   have q1:xs.toList.drop (i + 1) = c2:=by rw [← List.drop_drop,e1]; rfl
   have q2:ys.toList.drop (i + 1) = d2:=by rw [← List.drop_drop,e2]; rfl
   have hxo:xs[f.offset]? = some x:=by
    rw [ho',← Array.getElem?_toList]
    have:=congrArg (fun l=>l[0]?) e1
    simpa using this
   have hyo:ys[f.offset]? = some y:=by
    rw [ho',← Array.getElem?_toList]
    have:=congrArg (fun l=>l[0]?) e2
    simpa using this
   have ih:=ze3 hC (w:=w) d xs ys fs (i + 1) a' b' c' hrest hc' (by rw [q1]; exact h2) (by rw [q2]; exact k2)
   simp only [Op.eqFields,ne_eq,hn',not_false_eq_true,if_true,Sem.run_bind,zb8 hd1 hd2 hxo,zb8 hd1 hd2 hyo,he,Result.andThen_ok]
   cases r
   ·simp
   ·simpa using ih
  simp only [List.map_cons] at h
  unfold eqGs at h
  split at h
  ·rename_i hh; cases hh
  ·rename_i o t fs' k x a' j y b' hh
   cases hh
   split at h
   ·rename_i k0 hu
    split at h
    ·rename_i hkj
     subst hkj
     rw [Option.map_eq_some_iff] at h
     obtain ⟨c',hc',rfl⟩:=h
     exact one (x:=.int k x) (y:=.int k y) rfl rfl (fun cs h=>h) (fun cs h=>h) (hC.int _ _ hu) rfl (run_equalIn_int w d f.type k k0 x y (hC.int _ _ hu)) hc'
    ·cases h
   ·cases h
  ·rename_i o t fs' x a' y b' hh
   cases hh
   split at h
   ·rename_i hu
    rw [Option.map_eq_some_iff] at h
    obtain ⟨c',hc',rfl⟩:=h
    refine one (x:=.bool x) (y:=.bool y) rfl rfl (fun cs h=>h) (fun cs h=>h) (hC.bool _ hu) rfl ?_ hc'
    rw [run_equalIn_bool' w d f.type x y (hC.bool _ hu)]
    congr 1
   ·cases h
  ·rename_i o t fs' x a' y b' hh
   cases hh
   split at h
   ·rename_i hu
    rw [Option.map_eq_some_iff] at h
    obtain ⟨c',hc',rfl⟩:=h
    refine one (x:=.string x) (y:=.string y) rfl rfl (fun cs h=>h) (fun cs h=>h) (hC.str _ hu) rfl ?_ hc'
    rw [run_equalIn_string w d f.type x y (hC.str _ hu),toList_inj]
   ·cases h
  ·cases h
theorem zdB {fz:Nat→Nat→Option Value} {k:IntKind}:∀ {l:List Int} {cs:List Value},Elems (CR fz (.int k)) l cs→cs = l.map (Value.int k)
 | [],_,h=>h
 | x :: l,cs,⟨c1,c2,e,h1,h2⟩=>by rw [e,show c1 = [.int k x] from h1,zdB h2]; rfl
theorem zcd {w:World} (d:Nat) {e:TypeId} {k i:IntKind} (hu:P.underlying e = some (.int i)) {a b:List Int} {xs ys:Array Value} (hx:xs.toList = a.map (Value.int k)) (hy:ys.toList = b.map (Value.int k)) (hl:a.length = b.length) :
  ∀ n j,j + n = a.length→(Op.eqItems (d + 1) e 1 xs ys (List.range' j n)).run P w = .ok (decide (a.drop j = b.drop j)) w
 | 0,j,h=>by
  rw [List.drop_of_length_le (by omega),List.drop_of_length_le (by omega)]
  simp [Op.eqItems]
 | n + 1,j,h=>by
  have hja:j < a.length:=by omega
  have hjb:j < b.length:=by omega
  have h1:xs[j]? = some (.int k a[j]):=by
   rw [← Array.getElem?_toList,hx,List.getElem?_map,List.getElem?_eq_getElem hja]; rfl
  have h2:ys[j]? = some (.int k b[j]):=by
   rw [← Array.getElem?_toList,hy,List.getElem?_map,List.getElem?_eq_getElem hjb]; rfl
  have ih:=zcd (w:=w) d hu hx hy hl n (j + 1) (by omega)
  have ed:decide (a.drop j = b.drop j) = (decide (a[j] = b[j]) && decide (a.drop (j + 1) = b.drop (j + 1))):=by
   rw [List.drop_eq_getElem_cons hja,List.drop_eq_getElem_cons hjb,Bool.eq_iff_iff]
   simp only [decide_eq_true_eq,sA,sC]
  rw [List.range'_succ,ed]
  simp only [Op.eqItems,Nat.mul_one,Sem.run_bind,zb8 hu rfl h1,zb8 hu rfl h2,Result.andThen_ok,run_equalIn_int w d e k i _ _ hu]
  by_cases hab:a[j] = b[j]
  ·simpa [hab] using ih
  ·simp [hab]
def AV.isPtr:AV→Bool
 | .ptr .. | .rptr .. | .eptr ..=>true
 | _=>false
theorem zfn {g:Gh} {v:AV} {a:Value} (h:VR g v a) (hv:v.isPtr = true):∃ ad,a = .pointer (some ad):=by
 cases v <;> simp only [AV.isPtr,sF] at hv
 case ptr b o p =>
  have h':GR g (.ptr b o p) [a]:=h
  obtain ⟨_,_,_,_,_,_,e5⟩:=h'
  simp only [sC,and_true] at e5
  exact ⟨_,e5⟩
 case rptr b i o =>
  have h':GR g (.rptr b i o) [a]:=h
  obtain ⟨_,_,_,_,_,_,_,e5⟩:=h'
  simp only [sC,and_true] at e5
  exact ⟨_,e5⟩
 case eptr gs =>
  have h':GR g (.eptr gs) [a]:=h
  obtain ⟨_,_,_,e5,_⟩:=h'
  simp only [sC,and_true] at e5
  exact ⟨_,e5⟩
theorem zlX (hC:CfgOK C P) {g:Gh} {w:World} {op:BinOp} {t:Nat} {x y v:AV} {e:Eff} (h:binV C op t x y = some (true,v,e)) {a b:Value} (ha:VR g x a) (hb:VR g y b) (ox oy:Operand) :
  e = .none∧∃ z,(do eqGuard op t ox oy a b; binOp op t a b:Sem Value).run P w = .ok z w∧VR g v z:=by
 have fin:∀ {v:AV},a ≠ .nilIface→(∀ cs,a ≠ .agg cs)→(∃ z,(binOp op t a b).run P w = .ok z w∧VR g v z) →
   ∃ z,(do eqGuard op t ox oy a b; binOp op t a b:Sem Value).run P w = .ok z w∧VR g v z:=by
  rintro v h1 h2 ⟨z,h3,h4⟩
  exact ⟨z,by rw [Sem.run_bind,zfK h1 h2]; exact h3,h4⟩
 unfold binV at h
 split at h
 ·rename_i k p j q
  have ha':[a] = [Value.int k p]:=ha
  have hb':[b] = [Value.int j q]:=hb
  simp only [sC,and_true] at ha' hb'
  subst ha'
  subst hb'
  split at h
  ·obtain ⟨h1,h2⟩:=zhp (w:=w) (t:=t) (g:=g) (P:=P) (j:=j) (.inl (.inl rfl)) h
   exact ⟨h1,fin (by simp) (by simp) h2⟩
  ·obtain ⟨h1,h2⟩:=zhp (w:=w) (t:=t) (g:=g) (P:=P) (j:=j) (.inl (.inr rfl)) h
   exact ⟨h1,fin (by simp) (by simp) h2⟩
  ·split at h
   ·rename_i hkj
    obtain ⟨h1,h2⟩:=zhp (w:=w) (t:=t) (g:=g) (P:=P) (j:=j) (.inr hkj) h
    exact ⟨h1,fin (by simp) (by simp) h2⟩
   ·cases h
 ·rename_i p q
  have ha':[a] = [Value.string p]:=ha
  have hb':[b] = [Value.string q]:=hb
  simp only [sC,and_true] at ha' hb'
  subst ha'
  subst hb'
  obtain ⟨h1,h2⟩:=zne (w:=w) (t:=t) (g:=g) (P:=P) h
  exact ⟨h1,fin (by simp) (by simp) h2⟩
 ·rename_i p q
  have ha':[a] = [Value.bool p]:=ha
  have hb':[b] = [Value.bool q]:=hb
  simp only [sC,and_true] at ha' hb'
  subst ha'
  subst hb'
  split at h
  ·rename_i hu
   obtain ⟨h1,h2⟩:=zdR h
   exact ⟨h1,fin (by simp) (by simp) (za1 (run_equal_bool (hC.bool _ hu) p q) h2 rfl rfl)⟩
  ·cases h
 ·have ha':[a] = [Value.pointer none]:=ha
  have hb':[b] = [Value.pointer none]:=hb
  simp only [sC,and_true] at ha' hb'
  subst ha'
  subst hb'
  split at h
  ·rename_i e' hu
   obtain ⟨h1,h2⟩:=zdR h
   exact ⟨h1,fin (by simp) (by simp) (za1 (zej (hC.ptr _ _ hu) none) h2 rfl rfl)⟩
  ·cases h
 iterate 3
  ·have hb':[b] = [Value.pointer none]:=hb
   simp only [sC,and_true] at hb'
   subst hb'
   have ha2:=zfn ha rfl
   obtain ⟨ad,rfl⟩:=ha2
   split at h
   ·rename_i e' hu
    obtain ⟨h1,h2⟩:=zdR h
    exact ⟨h1,fin (by simp) (by simp) (za1 (zej (hC.ptr _ _ hu) (some ad)) h2 rfl rfl)⟩
   ·cases h
 ·have ha':[a] = [Value.slice none 0 0]:=ha
  have hb':[b] = [Value.slice none 0 0]:=hb
  simp only [sC,and_true] at ha' hb'
  subst ha'
  subst hb'
  split at h
  ·rename_i e' hu
   obtain ⟨h1,h2⟩:=zdR h
   exact ⟨h1,fin (by simp) (by simp) (za1 (zgg (hC.sl _ _ hu)) h2 rfl rfl)⟩
  ·cases h
 ·have hb':[b] = [Value.slice none 0 0]:=hb
  simp only [sC,and_true] at hb'
  subst hb'
  obtain ⟨ad,n0,c0,rfl⟩:∃ ad n0 c0,a = Value.slice (some ad) n0 c0:=by
   rcases (show GR g (.nn _ _) [a] from ha) with ⟨_,ad,e5⟩ | ⟨blk,off,cap,cs',e5,_⟩
   ·simp only [sC,and_true] at e5
    exact ⟨_,_,_,e5⟩
   ·simp only [sC,and_true] at e5
    exact ⟨_,_,_,e5⟩
  split at h
  ·rename_i e' hu
   obtain ⟨h1,h2⟩:=zdR h
   exact ⟨h1,fin (by simp) (by simp) (za1 (ze2 (hC.sl _ _ hu) _ _ _) h2 rfl rfl)⟩
  ·cases h
 ·have ha':[a] = [Value.nilFunc]:=ha
  have hb':[b] = [Value.nilFunc]:=hb
  simp only [sC,and_true] at ha' hb'
  subst ha'
  subst hb'
  split at h
  ·rename_i hu
   obtain ⟨_,_,_,hd⟩:=hC.fn _ hu
   obtain ⟨h1,h2⟩:=zdR h
   exact ⟨h1,fin (by simp) (by simp) (za1 (zgh hd) h2 rfl rfl)⟩
  ·cases h
 ·have hb':[b] = [Value.nilFunc]:=hb
  simp only [sC,and_true] at hb'
  subst hb'
  obtain ⟨vs,e5,_⟩:=(show GR g (.fn _ _) [a] from ha)
  simp only [sC,and_true] at e5
  subst e5
  split at h
  ·rename_i hu
   obtain ⟨_,_,_,hd⟩:=hC.fn _ hu
   obtain ⟨h1,h2⟩:=zdR h
   exact ⟨h1,fin (by simp) (by simp) (za1 (zie hd _ _ _) h2 rfl rfl)⟩
  ·cases h
 ·rename_i n k p m j q
  split at h
  ·rename_i q' e' hu
   split at h
   ·rename_i i hi
    split at h
    ·rename_i hc
     obtain ⟨⟨rfl,rfl,rfl⟩,rfl,hsz,hq⟩:=hc
     obtain ⟨xs,rfl,hx0,hx⟩:=ha
     obtain ⟨ys,rfl,hy0,hy⟩:=hb
     have hx:=zdB hx
     have hy:=zdB hy
     have e3:=hC.eqa t hq
     obtain ⟨ei,hei,hes,_⟩:=hC.size e' (by rw [hsz]; decide)
     have h1:P.cellsOf e' = 1:=by unfold Program.cellsOf; rw [hei]; simp [hes,hsz]
     have hr:(Op.equalIn 10000 t (.agg xs) (.agg ys)).run P w = .ok (decide ((show List Int from p) = (show List Int from q))) w:=by
      rw [run_equalIn_array w 9999 xs ys (hC.arr t _ _ hu) hei,h1,List.range_eq_range']
      have:=zcd (w:=w) 9998 (hC.int _ _ hi) hx hy (by rw [hx0,hy0]) q' 0 (by rw [hx0,Nat.zero_add])
      simpa using this
     obtain ⟨rfl,h2⟩:=zdR h
     refine ⟨rfl,?_⟩
     rcases h2 with ⟨rfl,rfl⟩ | ⟨rfl,rfl⟩
     ·exact ⟨.bool _,by rw [Sem.run_bind,run_eqGuard_agg w .eql t ox oy xs ys e3,Result.andThen_ok,run_eql_struct,hr]; rfl,rfl⟩
     ·exact ⟨.bool _,by rw [Sem.run_bind,run_eqGuard_agg w .neq t ox oy xs ys e3,Result.andThen_ok,run_neq_struct,hr]; rfl,rfl⟩
    ·cases h
   ·cases h
  ·cases h
 ·rename_i ga gb
  split at h
  ·rename_i fs hu
   split at h
   ·rename_i hq
    split at h
    ·rename_i c hc
     obtain ⟨xs,rfl,hx⟩:=ha
     obtain ⟨ys,rfl,hy⟩:=hb
     obtain ⟨e1,e2,e3,e4⟩:=hC.eqs t hq
     obtain ⟨fields,f1,f2⟩:=hC.st t fs hu
     rw [e1] at f1
     cases f1
     have hr:(Op.equalIn 10000 t (.agg xs) (.agg ys)).run P w = .ok c w:=by
      rw [run_equalIn_agg w 9999 t xs ys e1 e2]
      exact ze3 hC 9998 xs ys _ 0 ga gb c e4 (by rw [f2]; exact hc) (by simpa using hx) (by simpa using hy)
     obtain ⟨rfl,h2⟩:=zdR h
     refine ⟨rfl,?_⟩
     rcases h2 with ⟨rfl,rfl⟩ | ⟨rfl,rfl⟩
     ·exact ⟨.bool c,by rw [Sem.run_bind,run_eqGuard_agg w .eql t ox oy xs ys e3,Result.andThen_ok,run_eql_struct,hr]; rfl,rfl⟩
     ·exact ⟨.bool (!c),by rw [Sem.run_bind,run_eqGuard_agg w .neq t ox oy xs ys e3,Result.andThen_ok,run_neq_struct,hr]; rfl,rfl⟩
    ·cases h
   ·cases h
  ·cases h
 ·cases h
theorem znV {g:Gh} {w:World} {op:UnOp} {x v:AV} {c:Bool} {e:Eff} (h:unV op x = some (c,v,e)) {a:Value} (ha:VR g x a):e = .none∧∃ z,(Op.unary op a).run P w = .ok z w∧VR g v z:=by
 unfold unV at h
 split at h
 ·rename_i k n
  have ha':[a] = [Value.int k n]:=ha
  simp only [sC,and_true] at ha'
  subst ha'
  simp only [ok,sI,sM] at h
  obtain ⟨_,rfl,rfl⟩:=h
  exact ⟨rfl,_,rfl,rfl⟩
 ·rename_i k n
  have ha':[a] = [Value.int k n]:=ha
  simp only [sC,and_true] at ha'
  subst ha'
  simp only [ok,sI,sM] at h
  obtain ⟨_,rfl,rfl⟩:=h
  exact ⟨rfl,_,rfl,rfl⟩
 ·rename_i b
  have ha':[a] = [Value.bool b]:=ha
  simp only [sC,and_true] at ha'
  subst ha'
  simp only [ok,sI,sM] at h
  obtain ⟨_,rfl,rfl⟩:=h
  exact ⟨rfl,_,rfl,rfl⟩
 ·cases h
end
end Go.V
namespace Go.V
variable [Codes]
section
variable {C:Cfg} {P:Program}
def LoR (i:Option Int) (v:Option Value):Prop :=
 match i,v with
 | none,none=>True
 | some i,some v=>∃ k,v = .int k i
 | _,_=>False
theorem zbG {w:World} {isS:Bool} {len cap:Nat} {lo hi:Option Int} {lo' hi':Option Value} (h1:LoR lo lo') (h2:LoR hi hi') (hc:cutOk len lo hi = true) (hl:len≤cap) :
  (Instr.sliceBounds isS len cap lo' hi' none).run P w = .ok (cutFrom lo,cutFrom lo + zah len lo hi,cap) w∧cutFrom lo + zah len lo hi≤len:=by
 cases lo with
 | none =>
  cases lo' with
  | some _=>exact h1.elim
  | none =>
   cases hi with
   | none =>
    cases hi' with
    | some _=>exact h2.elim
    | none=>refine ⟨?_,by simp [cutFrom,zah,cutHi]⟩; simp [Instr.sliceBounds,cutFrom,zah,cutHi]
   | some b =>
    cases hi' with
    | none=>exact h2.elim
    | some v =>
     obtain ⟨k,rfl⟩:=h2
     simp only [cutOk,sA,decide_eq_true_eq] at hc
     refine ⟨?_,by simp only [cutFrom,zah,cutHi,Option.getD_none,Int.toNat_zero]; omega⟩
     simp [Instr.sliceBounds,cutFrom,zah,cutHi,run_sliceBound w k b cap _ hc.1 (by omega)]
 | some a =>
  cases lo' with
  | none=>exact h1.elim
  | some v =>
   obtain ⟨k,rfl⟩:=h1
   cases hi with
   | none =>
    cases hi' with
    | some _=>exact h2.elim
    | none =>
     simp only [cutOk,sA,decide_eq_true_eq] at hc
     refine ⟨?_,by simp only [cutFrom,zah,cutHi,Option.getD_some]; omega⟩
     simp [Instr.sliceBounds,cutFrom,zah,cutHi,run_sliceBound w k a len _ hc.1 (by omega)]
     omega
   | some b =>
    cases hi' with
    | none=>exact h2.elim
    | some v =>
     obtain ⟨k',rfl⟩:=h2
     simp only [cutOk,sA,decide_eq_true_eq] at hc
     refine ⟨?_,by simp only [cutFrom,zah,cutHi,Option.getD_some]; omega⟩
     simp [Instr.sliceBounds,cutFrom,zah,cutHi,run_sliceBound w k' b cap _ (show 0≤b by omega) (by omega),run_sliceBound w k a b.toNat _ hc.1.1 (by omega)]
     omega
theorem zc2 {w:World} {len cap:Nat} {lo:Option Int} {h:Int} {lo' hi' mx':Option Value} (h1:LoR lo lo') (h2:LoR (some h) hi') (h3:LoR (some h) mx') (hc:cutOk len lo (some h) = true) (hl:len≤cap) :
  (Instr.sliceBounds true len cap lo' hi' mx').run P w = .ok (cutFrom lo,cutFrom lo + zah len lo (some h),cutFrom lo + zah len lo (some h)) w∧cutFrom lo + zah len lo (some h)≤len:=by
 cases hi' with
 | none=>exact h2.elim
 | some v =>
  obtain ⟨k,rfl⟩:=h2
  cases mx' with
  | none=>exact h3.elim
  | some v =>
   obtain ⟨k',rfl⟩:=h3
   cases lo with
   | none =>
    cases lo' with
    | some _=>exact h1.elim
    | none =>
     simp only [cutOk,sA,decide_eq_true_eq] at hc
     refine ⟨?_,by simp only [cutFrom,zah,cutHi,Option.getD_none,Int.toNat_zero]; omega⟩
     simp [Instr.sliceBounds,cutFrom,zah,cutHi,run_sliceBound w k' h cap _ hc.1 (by omega),run_sliceBound w k h h.toNat _ hc.1 (by omega)]
   | some a =>
    cases lo' with
    | none=>exact h1.elim
    | some v =>
     obtain ⟨k2,rfl⟩:=h1
     simp only [cutOk,sA,decide_eq_true_eq] at hc
     refine ⟨?_,by simp only [cutFrom,zah,cutHi,Option.getD_some]; omega⟩
     simp [Instr.sliceBounds,cutFrom,zah,cutHi,run_sliceBound w k' h cap _ (show 0≤h by omega) (by omega),run_sliceBound w k h h.toNat _ (show 0≤h by omega) (by omega),run_sliceBound w k2 a h.toNat _ hc.1.1 (by omega)]
     omega
theorem zhq {α:Type} (l:List α) (lo hi:Option Int) (hc:cutOk l.length lo hi = true):cutL l lo hi = (l.drop (cutFrom lo)).take (zah l.length lo hi):=by
 cases lo <;> cases hi <;> simp only [cutL,cutFrom,zah,cutHi,Option.getD_none,Option.getD_some,Int.toNat_zero,List.drop_zero,Nat.sub_zero]
 ·rw [List.take_of_length_le (Nat.le_refl _)]
 ·rw [List.take_of_length_le (by rw [List.length_drop]; omega)]
 ·rw [List.drop_take]
theorem zhr {α:Type} (l:List α) (lo hi:Option Int) (hc:cutOk l.length lo hi = true) (hb:cutFrom lo + zah l.length lo hi≤l.length):(cutL l lo hi).length = zah l.length lo hi:=by
 rw [zhq l lo hi hc,List.length_take,List.length_drop]
 omega
theorem zba {w:World} {t e:Nat} {i:TypeInfo} (hd:P.underlying t = some (.slice e)) (hi:P.info? e = some i) {a:Option Addr} {n cap:Nat} {lo' hi' mx':Option Value} {l h m:Nat}
  (hb:(Instr.sliceBounds true n cap lo' hi' mx').run P w = .ok (l,h,m) w) :
  (Instr.sliceAt t (.slice a n cap) lo' hi' mx').run P w = .ok (.slice (if m = l then a else a.map (·.add (l * i.size))) (h - l) (m - l)) w:=by
 simp [Instr.sliceAt,Instr.slice,run_underlying hd,hb,run_sizeOf hi]
theorem zlY (hC:CfgOK C P) {g:Gh} {s:St} {tm:Array Value} {tms:List (Array Value)} {w:World} (hs:StR g s tm tms w) {t:Nat} {x v:AV} {lo hi mx:Option Int} {e:Eff} (h:zeZ C s.bxs t x lo hi mx = some (true,v,e)) {a:Value}
  (ha:VR g x a) {lo' hi' mx':Option Value} (h1:LoR lo lo') (h2:LoR hi hi') (h3:LoR mx mx'):e = .none∧∃ z,(Instr.sliceAt t a lo' hi' mx').run P w = .ok z w∧VR g v z:=by
 unfold zeZ at h
 split at h
 ·rename_i hu
  split at h
  ·rename_i s'
   simp only [okIf,sI,sM] at h
   obtain ⟨hc,rfl,rfl⟩:=h
   cases mx' with
   | some _=>exact h3.elim
   | none =>
    have ha':[a] = [Value.string s']:=ha
    simp only [sC,and_true] at ha'
    subst ha'
    obtain ⟨hb,_⟩:=zbG (P:=P) (w:=w) (isS:=false) h1 h2 hc (Nat.le_refl _)
    refine ⟨rfl,.string (cutS s' lo hi),?_,rfl⟩
    have e1:cutFrom lo + zah s'.size lo hi = cutHi s'.size hi:=by
     cases lo <;> cases hi <;> simp only [cutOk,sA,decide_eq_true_eq] at hc <;> simp only [cutFrom,zah,cutHi,Option.getD_none,Option.getD_some,Int.toNat_zero] <;> omega
    simp only [Instr.sliceAt,Instr.slice,Sem.run_bind,run_underlying (hC.str _ hu),Result.andThen_ok,Option.isSome_none,sF,if_false,hb,Sem.run_pure,e1]
    rfl
  ·cases h
 ·rename_i e' hu
  have hd:=hC.sl _ _ hu
  split at h
  ·cases h
  ·rename_i hz
   obtain ⟨inf,hinf,his,_⟩:=hC.size _ hz
   split at h
   ·rename_i b wn
    split at h
    ·rename_i T fz l hb
     split at h
     ·rename_i hT
      have ha':GR g (.row b wn) [a]:=ha
      obtain ⟨gb,v0,e1,e2,e3,hw⟩:=ha'
      simp only [sC,and_true] at e3
      subst e3
      obtain ⟨gb',k1,k2⟩:=hs.bxs.box _ _ hb
      rw [e1] at k1
      cases k1
      have hlen:gb.len = l.length:=k2.2.2.1
      have hcap:gb.len≤gb.cap:=k2.2.2.2.1
      have hsz:gb.sz = inf.size:=by rw [k2.2.1,hT,his]
      split at h
      ·cases mx' with
       | some _=>exact h3.elim
       | none =>
        split at h
        ·simp only [okIf,sI,sM] at h
         obtain ⟨hc,rfl,rfl⟩:=h
         cases hblk:gb.blk with
         | none =>
          simp only [WinR,hblk] at hw
          obtain ⟨rfl,h0⟩:=hw
          have hl0:l.length = 0:=by omega
          rw [hl0] at hc
          obtain ⟨hbd,hle⟩:=zbG (P:=P) (w:=w) (isS:=true) h1 h2 hc (Nat.le_refl 0)
          refine ⟨rfl,_,zba hd hinf hbd,gb,_,e1,e2,rfl,?_⟩
          simp only [WinR,hblk,hl0]
          have h4:cutFrom lo = 0:=by omega
          have h5:zah 0 lo hi = 0:=by omega
          simp [h4,h5,h0]
         | some blk =>
          simp only [WinR,hblk] at hw
          subst hw
          rw [← hlen] at hc ⊢
          obtain ⟨hbd,hle⟩:=zbG (P:=P) (w:=w) (isS:=true) h1 h2 hc hcap
          refine ⟨rfl,_,zba hd hinf hbd,gb,_,e1,e2,rfl,?_⟩
          simp only [WinR,hblk,Nat.add_sub_cancel_left]
          by_cases hm:gb.cap = cutFrom lo
          ·rw [if_pos hm]
           exact ⟨hle,_,_,rfl,rfl,by omega,(fun h=>nomatch h),by omega,.inl (by omega)⟩
          ·rw [if_neg hm,Option.map_some,zaZ]
           exact ⟨hle,_,_,rfl,rfl,by omega,(fun h=>nomatch h),by omega,.inr (by rw [hsz])⟩
        ·rename_i off n full
         simp only [okIf,sI,sM] at h
         obtain ⟨hc,rfl,rfl⟩:=h
         cases hblk:gb.blk with
         | none =>
          simp only [WinR,hblk] at hw
          obtain ⟨rfl,rfl,h0,rfl⟩:=hw
          obtain ⟨hbd,hle⟩:=zbG (P:=P) (w:=w) (isS:=true) h1 h2 hc (Nat.le_refl 0)
          refine ⟨rfl,_,zba hd hinf hbd,gb,_,e1,e2,rfl,?_⟩
          simp only [WinR,hblk]
          have h4:cutFrom lo = 0:=by omega
          have h5:zah 0 lo hi = 0:=by omega
          simp [h4,h5,h0]
         | some blk =>
          simp only [WinR,hblk] at hw
          obtain ⟨w1,a0,c,rfl,wsp,w2,w3,w4,w5⟩:=hw
          obtain ⟨hbd,hle⟩:=zbG (P:=P) (w:=w) (isS:=true) h1 h2 hc w2
          refine ⟨rfl,_,zba hd hinf hbd,gb,_,e1,e2,rfl,?_⟩
          simp only [WinR,hblk,Nat.add_sub_cancel_left]
          by_cases hm:c = cutFrom lo
          ·rw [if_pos hm]
           exact ⟨by omega,_,_,rfl,wsp,by omega,(fun h=>nomatch h),by omega,.inl (by omega)⟩
          ·rw [if_neg hm,Option.map_some]
           have ha0:a0 = ⟨blk,gb.off + off * gb.sz,none⟩:=by
            rcases w5 with h0 | h0
            ·omega
            ·exact h0
           subst ha0
           rw [zaZ]
           exact ⟨by omega,_,_,rfl,rfl,by omega,(fun h=>nomatch h),by omega,.inr (by rw [Nat.add_mul,hsz,Nat.add_assoc])⟩
      ·rename_i m
       split at h
       ·rename_i h'
        simp only [okIf,sI,sM,sA,decide_eq_true_eq] at h
        obtain ⟨⟨hc,hhm⟩,rfl,rfl⟩:=h
        subst hhm
        cases hblk:gb.blk with
        | none =>
         simp only [WinR,hblk] at hw
         obtain ⟨rfl,h0⟩:=hw
         have hl0:l.length = 0:=by omega
         rw [hl0] at hc
         obtain ⟨hbd,hle⟩:=zc2 (P:=P) (w:=w) h1 h2 h3 hc (Nat.le_refl 0)
         refine ⟨rfl,_,zba hd hinf hbd,gb,_,e1,e2,rfl,?_⟩
         simp only [WinR,hblk,hl0]
         have h4:cutFrom lo = 0:=by omega
         have h5:zah 0 lo (some h') = 0:=by omega
         simp [h4,h5,h0]
        | some blk =>
         simp only [WinR,hblk] at hw
         subst hw
         rw [← hlen] at hc ⊢
         obtain ⟨hbd,hle⟩:=zc2 (P:=P) (w:=w) h1 h2 h3 hc hcap
         refine ⟨rfl,_,zba hd hinf hbd,gb,_,e1,e2,rfl,?_⟩
         simp only [WinR,hblk,Nat.add_sub_cancel_left]
         by_cases hm:cutFrom lo + zah gb.len lo (some h') = cutFrom lo
         ·rw [if_pos hm]
          exact ⟨hle,_,_,rfl,rfl,Nat.le_refl _,fun _=>rfl,by omega,.inl (by omega)⟩
         ·rw [if_neg hm,Option.map_some,zaZ]
          exact ⟨hle,_,_,rfl,rfl,Nat.le_refl _,fun _=>rfl,by omega,.inr (by rw [hsz])⟩
       ·cases h
     ·cases h
    ·cases h
   ·rename_i hx
    split at h
    ·rename_i T l hv
     split at h
     ·rename_i hT
      split at h
      ·cases mx' with
       | some _=>exact h3.elim
       | none =>
        simp only [okIf,sI,sM] at h
        obtain ⟨hc,rfl,rfl⟩:=h
        obtain ⟨ad,cap,rfl,q1,q2⟩:=zc1 hs hv ha
        obtain ⟨hbd,hle⟩:=zbG (P:=P) (w:=w) (isS:=true) h1 h2 hc q1
        refine ⟨rfl,_,zba hd hinf hbd,_,rfl,?_⟩
        have hcl:=zhr l lo hi hc hle
        rcases q2 with ⟨rfl,rfl,rfl⟩ | ⟨blk,off,cs,rfl,q3,q4,q5⟩
        ·have h4:cutFrom lo = 0:=by simp only [List.length_nil] at hle; omega
         have h5:zah 0 lo hi = 0:=by simp only [List.length_nil] at hle; omega
         refine .inl ⟨List.eq_nil_of_length_eq_zero (by rw [hcl]; exact h5),?_⟩
         simp [h4,h5]
        ·have hfz:=q5 (fun b wn e=>hx b wn e)
         rw [Nat.add_sub_cancel_left,← hcl]
         by_cases hm:cap = cutFrom lo
         ·rw [if_pos hm]
          have h0:cutL l lo hi = []:=List.eq_nil_of_length_eq_zero (by rw [hcl]; omega)
          rw [h0]
          exact .inr ⟨blk,off,_,[],rfl,by simp,rfl,fun j v e=>by simp at e⟩
         ·rw [if_neg hm,Option.map_some,zaZ]
          refine .inr ⟨blk,_,_,(cs.drop (cutFrom lo * T.size)).take (zah l.length lo hi * T.size),rfl,by rw [hcl]; omega,?_,?_⟩
          ·rw [zhq l lo hi hc]
           have hT':∀ (x:T.den) (cs:List Value),CR g.fz T x cs→cs.length = T.size:=fun x cs h=>h.length
           have hs1:=q3.split hT' (cutFrom lo) (by omega)
           exact (hs1.2.split hT' (zah l.length lo hi) (by rw [List.length_drop]; omega)).1
          ·intro j v e
           rw [List.getElem?_take] at e
           split at e
           ·rw [List.getElem?_drop] at e
            rw [his,← hT,Nat.add_assoc]
            exact hfz _ v e
           ·cases e
      ·rename_i m
       split at h
       ·rename_i h'
        obtain ⟨ad,cap,rfl,q1,q2⟩:=zc1 hs hv ha
        split at h
        ·-- nil
         simp only [okIf,sI,sM,sA,decide_eq_true_eq] at h
         obtain ⟨⟨hc,hhm⟩,rfl,rfl⟩:=h
         subst hhm
         have hx':[Value.slice ad l.length cap] = [Value.slice none 0 0]:=ha
         simp only [sC,Value.slice.injEq,and_true] at hx'
         obtain ⟨rfl,hl0,rfl⟩:=hx'
         obtain ⟨hbd,hle⟩:=zc2 (P:=P) (w:=w) h1 h2 h3 hc q1
         refine ⟨rfl,_,zba hd hinf hbd,?_⟩
         have h4:cutFrom lo = 0:=by omega
         have h5:zah l.length lo (some h') = 0:=by omega
         show [_] = [Value.slice none 0 0]
         simp [h4,h5]
        ·simp only [okIf,sI,sM,sA,decide_eq_true_eq] at h
         obtain ⟨⟨hc,hhm⟩,rfl,rfl⟩:=h
         subst hhm
         obtain ⟨hbd,hle⟩:=zc2 (P:=P) (w:=w) h1 h2 h3 hc q1
         refine ⟨rfl,_,zba hd hinf hbd,?_⟩
         have hcl:=zhr l lo (some h') hc hle
         rcases q2 with ⟨rfl,rfl,rfl⟩ | ⟨blk,off,cs,rfl,q3,q4,q5⟩
         ·have h4:cutFrom lo = 0:=by simp only [List.length_nil] at hle; omega
          have h5:zah 0 lo (some h') = 0:=by simp only [List.length_nil] at hle; omega
          refine .inl ⟨List.eq_nil_of_length_eq_zero (by rw [hcl]; exact h5),?_⟩
          simp [h4,h5]
         ·have hfz:=q5 (fun b wn e=>hx b wn e)
          rw [Nat.add_sub_cancel_left,← hcl]
          by_cases hm:cutFrom lo + zah l.length lo (some h') = cutFrom lo
          ·rw [hcl,if_pos hm]
           have h0:cutL l lo (some h') = []:=List.eq_nil_of_length_eq_zero (by rw [hcl]; omega)
           have h5:zah l.length lo (some h') = 0:=by omega
           rw [h0,h5]
           exact .inr ⟨blk,off,[],rfl,rfl,fun j v e=>by simp at e⟩
          ·rw [hcl,if_neg hm,Option.map_some,zaZ]
           refine .inr ⟨blk,_,(cs.drop (cutFrom lo * T.size)).take (zah l.length lo (some h') * T.size),by rw [hcl],?_,?_⟩
           ·rw [zhq l lo (some h') hc]
            have hT':∀ (x:T.den) (cs:List Value),CR g.fz T x cs→cs.length = T.size:=fun x cs h=>h.length
            have hs1:=q3.split hT' (cutFrom lo) (by omega)
            exact (hs1.2.split hT' (zah l.length lo (some h')) (by rw [List.length_drop]; omega)).1
           ·intro j v e
            rw [List.getElem?_take] at e
            split at e
            ·rw [List.getElem?_drop] at e
             rw [his,← hT,Nat.add_assoc]
             exact hfz _ v e
            ·cases e
       ·cases h
     ·cases h
    ·cases h
 ·rename_i n e' hu
  have hd:=hC.arr _ _ _ hu
  split at h
  ·rename_i b off
   split at h
   ·rename_i h1s
    cases mx' with
    | some _=>exact h3.elim
    | none =>
     simp only [okIf,sI,sM] at h
     obtain ⟨hc,rfl,rfl⟩:=h
     obtain ⟨inf,hinf,his,_⟩:=hC.size e' (by omega)
     have ha':GR g (.ptr b off []) [a]:=ha
     obtain ⟨gb,blk,e1,e2,e3,e4,e5⟩:=ha'
     simp only [sC,and_true,zam,Nat.add_zero] at e5
     subst e5
     obtain ⟨hbd,hle⟩:=zbG (P:=P) (w:=w) (isS:=false) h1 h2 hc (Nat.le_refl n)
     refine ⟨rfl,.slice (some (if n = cutFrom lo then ⟨blk,off,none⟩ else (⟨blk,off,none⟩:Addr).add (cutFrom lo * inf.size))) (zah n lo hi) (n - cutFrom lo),?_,?_⟩
     ·simp [Instr.sliceAt,run_underlying hd,Instr.sureAddr,hbd,run_sizeOf hinf]
     ·refine ⟨gb,blk,n - cutFrom lo,e1,e2,e3,by omega,by omega,_,rfl,?_,?_⟩
      ·split <;> simp [zaZ]
      ·by_cases hm:n = cutFrom lo
       ·exact .inl (by omega)
       ·rw [if_neg hm,zaZ,his,h1s,Nat.mul_one]
        exact .inr rfl
   ·cases h
  ·rename_i k T l
   split at h
   ·rename_i hcond
    obtain ⟨rfl,hTs,hnz⟩:=hcond
    cases mx' with
    | some _=>exact h3.elim
    | none =>
     simp only [okIf,sI,sM] at h
     obtain ⟨hc,rfl,rfl⟩:=h
     obtain ⟨inf,hinf,his,_⟩:=hC.size e' hnz
     have ha':GR g (.eptr [.val (.arr k T) l]) [a]:=ha
     obtain ⟨blk,off,cs',e1,e2,e3⟩:=ha'
     simp only [sC,and_true] at e1
     subst e1
     obtain ⟨c1,c2,rfl,⟨hlen,hel⟩,hc2⟩:=e2
     have hc2':c2 = []:=hc2
     subst hc2'
     rw [List.append_nil] at e3
     obtain ⟨hbd,hle⟩:=zbG (P:=P) (w:=w) (isS:=false) h1 h2 hc (Nat.le_refl k)
     refine ⟨rfl,.slice (some (if k = cutFrom lo then ⟨blk,off,none⟩ else (⟨blk,off,none⟩:Addr).add (cutFrom lo * inf.size))) (zah k lo hi) (k - cutFrom lo),?_,_,rfl,?_⟩
     ·simp [Instr.sliceAt,run_underlying hd,Instr.sureAddr,hbd,run_sizeOf hinf]
     ·rw [← hlen] at hc hle ⊢
      have hcl:=zhr l lo hi hc hle
      rw [← hcl]
      by_cases hm:l.length = cutFrom lo
      ·rw [if_pos hm]
       have h0:cutL l lo hi = []:=List.eq_nil_of_length_eq_zero (by rw [hcl]; omega)
       rw [h0]
       exact .inr ⟨blk,off,_,[],rfl,by simp,rfl,fun j v e=>by simp at e⟩
      ·rw [if_neg hm,zaZ]
       refine .inr ⟨blk,_,_,(c1.drop (cutFrom lo * T.size)).take (zah l.length lo hi * T.size),rfl,by rw [hcl]; omega,?_,?_⟩
       ·rw [zhq l lo hi hc]
        have hT':∀ (x:T.den) (cs:List Value),CR g.fz T x cs→cs.length = T.size:=fun x cs h=>h.length
        have hs1:=hel.split hT' (cutFrom lo) (by omega)
        exact (hs1.2.split hT' (zah l.length lo hi) (by rw [List.length_drop]; omega)).1
       ·intro j v e
        rw [List.getElem?_take] at e
        split at e
        ·rw [List.getElem?_drop] at e
         rw [his,← hTs,Nat.add_assoc]
         exact e3 _ v e
        ·cases e
   ·cases h
  ·cases h
 ·cases h
end
end Go.V
