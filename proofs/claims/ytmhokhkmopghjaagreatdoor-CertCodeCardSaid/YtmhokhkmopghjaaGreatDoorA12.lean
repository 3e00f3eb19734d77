/- Part of the proof. -/
import Derived.KernelRfl
import Derived.Test.YtmhokhkmopghjaaGreatDoorA11
set_option linter.all false
set_option linter.unusedVariables false
set_option linter.unusedSectionVars false
set_option linter.unusedSimpArgs false
namespace Go.V.G
open Go.Proofs
open Go.V.K
theorem zi9 (s:ByteArray) (a e:Nat) (h1:a≤e) (h2:e≤s.size):zaj (cutS s (some (a:Int)) (some (e:Int))) = ((zaj s).drop a).take (e - a):=by
 unfold cutS zaj cutHi
 simp only [Option.getD_some,Int.toNat_natCast,ByteArray.data_extract,Array.toList_extract,List.extract_eq_take_drop,List.map_take,List.map_drop]
theorem zm9 {d:List Rl} (hd:okD d) (p q:ByteArray):decD (p++encs (delI d)++q) (p.size:Int) = some ((d,()),((p.size + (encs (delI d)).size:Nat):Int),(0:Int),()):=by
 have hn:zaj (p++encs (delI d)++q) = zaj p++(nEs (delI d)++zaj q):=by
  rw [zbe,zbe,zbm,List.append_assoc]
 have hd2:(zaj (p++encs (delI d)++q)).drop p.size = nEs (delI d)++zaj q:=by
  rw [hn,← zax p,List.drop_left]
 have hdel:del (nEs (delI d)++zaj q) = some (d,zaj q):=zlL.2 ⟨⟨zdW hd,okD_S hd⟩,rfl⟩
 unfold decD
 rw [if_pos (by rw [ByteArray.size_append,ByteArray.size_append]; omega),Int.toNat_natCast,hd2,hdel]
 simp only
 rw [if_pos (zbf.2 hd)]
 unfold P
 rw [ByteArray.size_append,ByteArray.size_append,zax]
 have:p.size + (encs (delI d)).size + q.size - q.size = p.size + (encs (delI d)).size:=by omega
 rw [this]
theorem zot {s:ByteArray} {a:Int} {d:List Rl} {e:Int} (h:decD s a = some ((d,()),e,(0:Int),())) :
  okD d∧0≤a∧a≤e∧e≤(s.size:Int)∧cutS s (some a) (some e) = encs (delI d):=by
 unfold decD at h
 split at h
 ·rename_i ha
  obtain ⟨b,rfl⟩:∃ b:Nat,a = (b:Int):=⟨a.toNat,by omega⟩
  have hb:b≤s.size:=by omega
  rw [Int.toNat_natCast] at h
  split at h
  ·rename_i d' u hdel
   split at h
   ·rename_i hv
    simp only [Option.some.injEq,Prod.mk.injEq,and_true] at h
    obtain ⟨rfl,rfl⟩:=h
    obtain ⟨_,hb2⟩:=zlL.1 hdel
    have hlen:=congrArg List.length hb2
    rw [List.length_drop,zax,List.length_append,← zbm,zax] at hlen
    have hu:u.length≤s.size:=by omega
    refine ⟨zbf.1 hv,by omega,?_,?_,?_⟩
    ·unfold P; omega
    ·unfold P; omega
    ·apply zbl
     unfold P
     rw [zi9 s b _ (by omega) (by omega),hb2,zbm]
     have e1:s.size - u.length - b = (nEs (delI d')).length:=by
      rw [← zbm,zax]
      omega
     rw [e1,List.take_left]
   ·simp [dNone] at h
  ·simp [dNone] at h
 ·simp [dNone] at h
theorem zkO (s:ByteArray) (a:Int):decD s a = dNone ∨ ∃ d e,decD s a = some ((d,()),e,(0:Int),())∧okD d:=by
 unfold decD
 split
 ·split
  ·split
   ·rename_i hv
    exact .inr ⟨_,_,rfl,zbf.1 hv⟩
   ·exact .inl rfl
  ·exact .inl rfl
 ·exact .inl rfl
theorem zna {l:List Int} (h:okL l):decL (encs (labI l)) = some (l,(0:Int),()):=by
 have e:lab (zaj (encs (labI l))) = some (l,[]):=zfD.2 ⟨h,by rw [zbm,List.append_nil]⟩
 unfold decL
 rw [e]
 rfl
theorem znb {s:ByteArray}:∃ l z,decL s = some (l,z,())∧l.length≤64:=by
 unfold decL
 cases h:lab (zaj s) with
 | none=>exact ⟨_,_,rfl,by simp⟩
 | some x =>
  obtain ⟨l,u⟩:=x
  have:=(zfD.1 h).1.1
  simp only
  split
  ·exact ⟨_,_,rfl,this⟩
  ·exact ⟨_,_,rfl,by simp⟩
theorem zhl {d:List Rl}:0 < (encs (delI d)).size:=by
 have:0 < (enc (d.length:Int)).size:=zon _
 have e:encs (delI d) = enc (d.length:Int)++encs (relsI d):=rfl
 rw [e,ByteArray.size_append]
 omega
theorem zhm {d:List Rl} (h:okD d):(encs (delI d)).size≤210000:=by
 have h1:=zia (okD_S h)
 have h2:=zdW h
 have h3:=zaJ (delI d) (fun n hn=>by
  unfold delI at hn
  rcases List.mem_cons.1 hn with rfl | hn
  ·unfold zaC maxI; omega
  ·exact zi8 (okD_S h) n hn)
 have e:(delI d).length = (relsI d).length + 1:=rfl
 omega
end Go.V.G
namespace Go.V.G
open Go.Proofs
open Go.V.K
def numsU:Nat→Bs→Option (List Int × Bs)
 | 0,bs=>some ([],bs)
 | k + 1,bs=>match num bs with
  | some (n,t)=>match numsU k t with
   | some (l,u)=>some (n :: l,u)
   | none=>none
  | none=>none
theorem zcJ:∀ {k:Nat} {bs:Bs} {l:List Int} {t:Bs},numsU k bs = some (l,t) ↔ (l.length = k∧∀ n∈l,zaC n)∧bs = nEs l++t
 | 0,bs,l,t=>by
  simp only [numsU,Option.some.injEq,Prod.mk.injEq]
  constructor
  ·rintro ⟨rfl,rfl⟩
   exact ⟨⟨rfl,by simp⟩,rfl⟩
  ·rintro ⟨⟨h,_⟩,rfl⟩
   have:l = []:=List.eq_nil_of_length_eq_zero h
   subst this
   exact ⟨rfl,rfl⟩
 | k + 1,bs,l,t=>by
  simp only [numsU]
  constructor
  ·intro h
   split at h
   ·rename_i n u e
    split at h
    ·rename_i m v e2
     simp only [Option.some.injEq,Prod.mk.injEq] at h
     obtain ⟨rfl,rfl⟩:=h
     obtain ⟨g1,rfl⟩:=zcY.1 e
     obtain ⟨⟨g2,g3⟩,rfl⟩:=zcJ.1 e2
     refine ⟨⟨by simp [g2],fun x hx=>?_⟩,by rw [zbj,List.append_assoc]⟩
     rcases List.mem_cons.1 hx with rfl | hx
     ·exact g1
     ·exact g3 x hx
    ·cases h
   ·cases h
  ·rintro ⟨⟨h1,h2⟩,rfl⟩
   cases l with
   | nil=>simp at h1
   | cons n l =>
    have e1:num (nEs (n :: l)++t) = some (n,nEs l++t):=zcY.2 ⟨h2 n (by simp),by rw [zbj,List.append_assoc]⟩
    have e2:numsU k (nEs l++t) = some (l,t):=zcJ.2 ⟨⟨by simpa using h1,fun x hx=>h2 x (by simp [hx])⟩,rfl⟩
    rw [e1]
    simp only [e2]
theorem zlN {t u v:Bs} {n:Int} {l:List Int} (h:numR 0 64 t = some (n,u)) (h2:numsU n.toNat u = some (l,v)):lab t = if okLb l = true then some (l,v) else none:=by
 have hr:=zch h
 obtain ⟨⟨g1,g2⟩,rfl⟩:=zcJ.1 h2
 rw [zbz h]
 by_cases e:okLb l = true
 ·rw [if_pos e]
  have ho:=zb2.1 e
  exact zby.2 ⟨⟨g1,fun x hx=>by have:=ho.2 x hx; unfold maxN; omega⟩,rfl⟩
 ·rw [if_neg e]
  cases hn:nums n.toNat (nEs l++v) with
  | none=>rfl
  | some x =>
   obtain ⟨l',v'⟩:=x
   obtain ⟨⟨k1,k2⟩,k3⟩:=zby.1 hn
   have h3:numsU n.toNat (nEs l++v) = some (l',v'):=zcJ.2 ⟨⟨k1,fun x hx=>by have:=k2 x hx; unfold maxN at this; unfold zaC maxI; omega⟩,k3⟩
   rw [h3] at h2
   simp only [Option.some.injEq,Prod.mk.injEq] at h2
   obtain ⟨rfl,_⟩:=h2
   exact absurd (zb2.2 ⟨by omega,fun x hx=>by have:=k2 x hx; unfold maxN at this; omega⟩) e
theorem zou {t u:Bs} {n:Int} (h:numR 0 64 t = some (n,u)) (h2:numsU n.toNat u = none):lab t = none:=by
 rw [zbz h]
 cases hn:nums n.toNat u with
 | none=>rfl
 | some x =>
  obtain ⟨l',v'⟩:=x
  obtain ⟨⟨k1,k2⟩,k3⟩:=zby.1 hn
  have h3:numsU n.toNat u = some (l',v'):=zcJ.2 ⟨⟨k1,fun x hx=>by have:=k2 x hx; unfold maxN at this; unfold zaC maxI; omega⟩,k3⟩
  rw [h3] at h2
  cases h2
def rel1U (bs:Bs):Option (Rl × Bs) :=
 match num bs with
 | some (k,t)=>match num t with
  | some (i,t)=>match may t with
   | some (a,t)=>match may t with
    | some (b,t)=>some (mkR (k,i) a b,t)
    | none=>none
   | none=>none
  | none=>none
 | none=>none
def okU (r:Rl):Prop:=zaC r.1∧zaC r.2.1∧okM (bf r)∧okM (af r)
theorem zfE {bs:Bs} {r:Rl} {t:Bs}:rel1U bs = some (r,t) ↔ okU r∧bs = nEs (relI r)++t:=by
 unfold rel1U
 constructor
 ·intro e
  split at e
  ·rename_i k u1 e1
   obtain ⟨g1,rfl⟩:=zcY.1 e1
   split at e
   ·rename_i i u2 e2
    obtain ⟨g2,rfl⟩:=zcY.1 e2
    split at e
    ·rename_i a u3 e3
     obtain ⟨g3,rfl⟩:=zcZ.1 e3
     split at e
     ·rename_i b u4 e4
      obtain ⟨g4,rfl⟩:=zcZ.1 e4
      simp only [Option.some.injEq,Prod.mk.injEq] at e
      obtain ⟨rfl,rfl⟩:=e
      refine ⟨⟨g1,g2,g3,g4⟩,?_⟩
      simp only [relI,zn0,zn1,zbj,zcC,List.append_assoc]
      rfl
     ·cases e
    ·cases e
   ·cases e
  ·cases e
 ·rintro ⟨⟨g1,g0,g2,g3⟩,rfl⟩
  have e1:num (nEs (relI r)++t) = some (r.1,nE r.2.1++(nEs (mayI (bf r))++(nEs (mayI (af r))++t))):=zcY.2 ⟨g1,by simp only [relI,zbj,zcC,List.append_assoc]⟩
  have e2:num (nE r.2.1++(nEs (mayI (bf r))++(nEs (mayI (af r))++t))) = some (r.2.1,nEs (mayI (bf r))++(nEs (mayI (af r))++t)):=zcY.2 ⟨g0,rfl⟩
  have e3:may (nEs (mayI (bf r))++(nEs (mayI (af r))++t)) = some (bf r,nEs (mayI (af r))++t):=zcZ.2 ⟨g2,rfl⟩
  have e4:may (nEs (mayI (af r))++t) = some (af r,t):=zcZ.2 ⟨g3,rfl⟩
  rw [e1]
  simp only [e2,e3,e4]
  rfl
theorem okS_U {r:Rl} (h:okS r):okU r:=by
 have h1:=zda.1 h.1
 have k1:1≤r.1:=h1.1.1
 have k2:r.1≤7:=h1.1.2
 have k3:0≤r.2.1:=h1.2.1
 have k4:r.2.1 < 24:=h1.2.2
 exact ⟨by unfold zaC maxI; omega,by unfold zaC maxI; omega,h.2.1,h.2.2⟩
def relsU:Nat→Bs→Option (List Rl × Bs)
 | 0,bs=>some ([],bs)
 | k + 1,bs=>match rel1U bs with
  | some (r,t)=>match relsU k t with
   | some (l,u)=>some (r :: l,u)
   | none=>none
  | none=>none
theorem zcK:∀ {k:Nat} {bs:Bs} {d:List Rl} {t:Bs},relsU k bs = some (d,t) ↔ (d.length = k∧∀ r∈d,okU r)∧bs = nEs (relsI d)++t
 | 0,bs,d,t=>by
  simp only [relsU,Option.some.injEq,Prod.mk.injEq]
  constructor
  ·rintro ⟨rfl,rfl⟩
   exact ⟨⟨rfl,by simp⟩,rfl⟩
  ·rintro ⟨⟨h,_⟩,rfl⟩
   have:d = []:=List.eq_nil_of_length_eq_zero h
   subst this
   exact ⟨rfl,rfl⟩
 | k + 1,bs,d,t=>by
  simp only [relsU]
  constructor
  ·intro h
   split at h
   ·rename_i r u e
    split at h
    ·rename_i m v e2
     simp only [Option.some.injEq,Prod.mk.injEq] at h
     obtain ⟨rfl,rfl⟩:=h
     obtain ⟨g1,rfl⟩:=zfE.1 e
     obtain ⟨⟨g2,g3⟩,rfl⟩:=zcK.1 e2
     refine ⟨⟨by simp [g2],fun x hx=>?_⟩,by simp only [relsI,List.flatMap_cons,zcC,List.append_assoc]⟩
     rcases List.mem_cons.1 hx with rfl | hx
     ·exact g1
     ·exact g3 x hx
    ·cases h
   ·cases h
  ·rintro ⟨⟨h1,h2⟩,rfl⟩
   cases d with
   | nil=>simp at h1
   | cons r d =>
    have e1:rel1U (nEs (relsI (r :: d))++t) = some (r,nEs (relsI d)++t):=zfE.2 ⟨h2 r (by simp),by simp only [relsI,List.flatMap_cons,zcC,List.append_assoc]⟩
    have e2:relsU k (nEs (relsI d)++t) = some (d,t):=zcK.2 ⟨⟨by simpa using h1,fun x hx=>h2 x (by simp [hx])⟩,rfl⟩
    rw [e1]
    simp only [e2]
theorem del_U {t u:Bs} {n:Int} {d:List Rl} (h:numR 0 168 t = some (n,u)) {v:Bs} (h2:relsU n.toNat u = some (d,v)) (hv:validD d = true):del t = some (d,v):=by
 have hr:=zch h
 obtain ⟨⟨g1,g2⟩,g3⟩:=zcK.1 h2
 unfold del
 rw [h]
 exact zcw.2 ⟨⟨g1,okD_S (zbf.1 hv)⟩,g3⟩
theorem zov {t u:Bs} {n:Int} (h:numR 0 168 t = some (n,u)) (h2:relsU n.toNat u = none):del t = none:=by
 unfold del
 rw [h]
 cases hx:rels n.toNat u with
 | none=>exact hx
 | some x =>
  obtain ⟨d,v⟩:=x
  obtain ⟨⟨g1,g2⟩,g3⟩:=zcw.1 hx
  have:=zcK.2 ⟨⟨g1,fun r hr=>okS_U (g2 r hr)⟩,g3⟩
  rw [h2] at this
  cases this
theorem znc {t u:Bs} {n:Int} {d:List Rl} (h:numR 0 168 t = some (n,u)) {v:Bs} (h2:relsU n.toNat u = some (d,v)) (hv:validD d = false):∀ d' v',del t = some (d',v')→validD d' = false:=by
 intro d' v' h3
 unfold del at h3
 rw [h] at h3
 obtain ⟨⟨g1,g2⟩,g3⟩:=zcw.1 h3
 have:=zcK.2 ⟨⟨g1,fun r hr=>okS_U (g2 r hr)⟩,g3⟩
 rw [h2] at this
 simp only [Option.some.injEq,Prod.mk.injEq] at this
 rw [← this.1]
 exact hv
end Go.V.G
namespace Go.V.G
open Go.Proofs
open Go.V.K
theorem f550_num (s:ByteArray) (hs:s.size≤1099511627776) {t:Bs} (ht:t <:+ zaj s) :
  f550 s (P s t) = match num t with
   | some (n,u)=>some (n,P s u,0,())
   | none=>some (0,0,10,()):=by
 have hl:=zi7 ht
 rw [zax] at hl
 have h:=f550_eq s hs (s.size - t.length) (by omega)
 have e:(zaj s).drop (s.size - t.length) = t:=by
  have:=zj7 ht
  rw [zax] at this
  exact this
 rw [e] at h
 unfold P
 rw [h]
 unfold num
 cases hd:dec t with
 | none=>rfl
 | some x =>
  obtain ⟨n,k⟩:=x
  obtain ⟨_,hk,u,hu⟩:=zhi hd
  have:k≤t.length:=by rw [hu,List.length_append]; omega
  simp only [Option.some.injEq,Prod.mk.injEq,List.length_drop,true_and,and_true]
  omega
theorem f550_zero (s:ByteArray) (hs:s.size≤1099511627776):∃ y,f550 s (0:Int) = some y:=by
 have h:=f550_num s hs (List.suffix_refl (zaj s))
 rw [P_all] at h
 rw [h]
 cases num (zaj s) <;> exact ⟨_,rfl⟩
theorem f543_loop (l:List Int) (h:∀ n∈l,zaC n) (hl:l.length≤1000):∀ (m j k:Nat) (s:ByteArray),j + m = l.length→m < k→s.size≤9 * j →
  f543_l3 l k s (j:Int) = some ((s++encs (l.drop j),()),(),()):=by
 intro m
 induction m with
 | zero =>
  intro j k s h1 h2 h3
  obtain ⟨k,rfl⟩:∃ q,k = q + 1:=⟨k - 1,by omega⟩
  unfold f543_l3
  have e:¬ j < l.length:=by omega
  simp only [Int.ofNat_lt,e,decide_false,cond_false]
  rw [List.drop_of_length_le (by omega)]
  have:s++encs [] = s:=zbl (by rw [zbe,zbm]; simp [nEs])
  rw [this]
  rfl
 | succ m ih =>
  intro j k s h1 h2 h3
  obtain ⟨k,rfl⟩:∃ q,k = q + 1:=⟨k - 1,by omega⟩
  have hj:j < l.length:=by omega
  have hn:=h _ (List.getElem_mem hj)
  conv=>lhs; unfold f543_l3
  have hgen:(at_ yI l (j:Int):Int) = l[j]:=atN yI l j hj
  simp only [Int.ofNat_lt,inRN,hj,decide_true,cond_true,hgen,wS j (by omega)]
  rw [List.drop_eq_getElem_cons hj]
  generalize l[j] = x at hn
  refine zaa (f584_eq hn.1 hn.2) ?_
  have k1:=zhh hn.1 hn.2
  show (bif decide ((0:Int) = 0) then (bif catOk s (enc x) then f543_l3 l k (s++enc x) ((j + 1:Nat):Int) else none) else _) = _
  rw [zT rfl,cond_true,zaP _ _ (by omega),cond_true]
  refine (ih (j + 1) k _ (by omega) (by omega) (by rw [ByteArray.size_append]; omega)).trans ?_
  have e:s++enc x++encs (l.drop (j + 1)) = s++encs (x :: l.drop (j + 1)):=zbl (by
   simp only [encs,zbe,List.append_assoc])
  rw [e]
theorem f543_eq (l:List Int) (h:∀ n∈l,zaC n) (hl:l.length≤1000):f543 l = some (encs l,()):=by
 unfold f543
 refine zaa (f543_loop l h hl l.length 0 (((l.length:Int) - (0:Int)).toNat + 1) (⟨#[]⟩:ByteArray) (by omega) (by omega) (Nat.zero_le _)) ?_
 rw [List.drop_zero]
 have:(⟨#[]⟩:ByteArray)++encs l = encs l:=zbl (by rw [zbe]; simp [zaj])
 show some ((⟨#[]⟩:ByteArray)++encs l,()) = _
 rw [this]
theorem zco {n:Int} (h:zaC n):∀ x∈[n],zaC x:=by intro x hx; rw [List.mem_singleton.1 hx]; exact h
theorem f514_eq (l:List Int) (hl:l.length≤1000000):f514 l = if okLb l = true then some (encs (labI l),(0:Int),()) else some ((⟨#[]⟩:ByteArray),(160:Int),()):=by
 unfold f514
 refine zaa (f81_eq l hl) ?_
 cases h:okLb l with
 | false=>rfl
 | true =>
  have ho:=zb2.1 h
  simp only [Bool.not_true,cond_false,if_true]
  have hn:zaC (l.length:Int):=by have:=ho.1; unfold zaC maxI; omega
  refine zaa (f543_eq [(l.length:Int)] (zco hn) (by simp)) ?_
  refine zaa (f543_eq l (zdk ho) (by have:=ho.1; omega)) ?_
  have e:encs [(l.length:Int)]++encs l = encs (labI l):=(zcg [(l.length:Int)] l).symm
  have h1:=zaJ [(l.length:Int)] (zco hn)
  have h2:=zaJ l (zdk ho)
  have h3:=ho.1
  simp only [List.length_singleton] at h1
  show (bif catOk (encs [(l.length:Int)]) (encs l) then _ else none) = _
  rw [zaP _ _ (by omega),cond_true,e]
theorem f544_eq (b:Bool) (l:List Int) (h:okM (b,l)):f544 b l = some (encs (mayI (b,l)),()):=by
 have h1:zaC 1:=by unfold zaC maxI; omega
 have h0:zaC 0:=by unfold zaC maxI; omega
 unfold f544 mayI
 cases b with
 | false =>
  simp only [Bool.not_false,cond_true,Bool.false_eq_true,if_false]
  exact zaa (f543_eq [(0:Int)] (zco h0) (by simp)) rfl
 | true =>
  simp only [Bool.not_true,cond_false,if_true]
  have ho:okL l:=h.1
  have hl:=ho.1
  have e27:=f514_eq l (by omega)
  rw [zb2.2 ho,if_pos rfl] at e27
  refine zaa e27 ?_
  show (bif decide ((0:Int) ≠ 0) then _ else _) = _
  rw [show decide ((0:Int) ≠ 0) = false from by decide,cond_false]
  refine zaa (f543_eq [(1:Int)] (zco h1) (by simp)) ?_
  have e:encs [(1:Int)]++encs (labI l) = encs (1 :: labI l):=(zcg [(1:Int)] (labI l)).symm
  have k1:=zaJ [(1:Int)] (zco h1)
  have k2:=zaJ (labI l) (zdx ho)
  have k3:(labI l).length = l.length + 1:=rfl
  simp only [List.length_singleton] at k1
  show (bif catOk (encs [(1:Int)]) (encs (labI l)) then _ else none) = _
  rw [zaP _ _ (by omega),cond_true,e]
theorem f508_loop (d:List Rl) (hd:okD d):∀ (m j k:Nat) (s:ByteArray),j + m = d.length→m < k→s.size≤10 + 1206 * j →
  f508_l5 d k s (j:Int) = some ((s++encs (relsI (d.drop j)),()),(),()):=by
 intro m
 have hl:=zdW hd
 induction m with
 | zero =>
  intro j k s h1 h2 h3
  obtain ⟨k,rfl⟩:∃ q,k = q + 1:=⟨k - 1,by omega⟩
  unfold f508_l5
  have e:¬ j < d.length:=by omega
  simp only [Int.ofNat_lt,e,decide_false,cond_false]
  rw [List.drop_of_length_le (by omega)]
  have:s++encs (relsI []) = s:=zbl (by rw [zbe,zbm]; simp [relsI,nEs])
  rw [this]
  rfl
 | succ m ih =>
  intro j k s h1 h2 h3
  obtain ⟨k,rfl⟩:∃ q,k = q + 1:=⟨k - 1,by omega⟩
  have hj:j < d.length:=by omega
  have hr:=okD_S hd _ (List.getElem_mem hj)
  conv=>lhs; unfold f508_l5
  rw [List.drop_eq_getElem_cons hj]
  have hgen:(at_ tR d (j:Int):Rl) = d[j]:=atN tR d j hj
  simp only [Int.ofNat_lt,inRN,hj,decide_true,cond_true,hgen,wS j (by omega)]
  generalize d[j] = x at hr
  have s1:∀ n∈[x.1,x.2.1],zaC n:=fun n hn=>zdz hr n (by
   unfold relI
   simp only [List.mem_cons,List.not_mem_nil,or_false] at hn ⊢
   rcases hn with rfl | rfl
   ·exact .inl rfl
   ·exact .inr (.inl rfl))
  have k1:=zaJ [x.1,x.2.1] s1
  have k2:=zaJ (mayI (bf x)) (zcl hr.2.1)
  have k3:=zaJ (mayI (af x)) (zcl hr.2.2)
  have k4:=zdy hr.2.1
  have k5:=zdy hr.2.2
  simp only [List.length_cons,List.length_nil] at k1
  refine zaa (f543_eq [x.1,x.2.1] s1 (by simp)) ?_
  show (bif catOk s (encs [x.1,x.2.1]) then _ else none) = _
  rw [zaP _ _ (by omega),cond_true]
  refine zaa (f544_eq (bf x).1 (bf x).2 hr.2.1) ?_
  show (bif catOk (s++encs [x.1,x.2.1]) (encs (mayI (bf x))) then _ else none) = _
  rw [zaP _ _ (by rw [ByteArray.size_append]; omega),cond_true]
  refine zaa (f544_eq (af x).1 (af x).2 hr.2.2) ?_
  show (bif catOk (s++encs [x.1,x.2.1]++encs (mayI (bf x))) (encs (mayI (af x))) then f508_l5 d k (s++encs [x.1,x.2.1]++encs (mayI (bf x))++encs (mayI (af x))) ((j + 1:Nat):Int) else none) = _
  rw [zaP _ _ (by rw [ByteArray.size_append,ByteArray.size_append]; omega),cond_true]
  refine (ih (j + 1) k _ (by omega) (by omega) (by rw [ByteArray.size_append,ByteArray.size_append,ByteArray.size_append]; omega)).trans ?_
  have e:s++encs [x.1,x.2.1]++encs (mayI (bf x))++encs (mayI (af x))++encs (relsI (d.drop (j + 1))) = s++encs (relsI (x :: d.drop (j + 1))):=zbl (by
   simp only [zbe,zbm,relsI,relI,List.flatMap_cons,zcC,zbj,zor,List.append_assoc,List.nil_append,List.cons_append,List.append_nil])
  rw [e]
theorem f508_eq (d:List Rl) (h:smD d):f508 (d,()) = if validD d = true then some (encs (delI d),(0:Int),()) else some ((⟨#[]⟩:ByteArray),(160:Int),()):=by
 unfold f508
 refine zaa (f20_eq d h) ?_
 cases hv:validD d with
 | false=>rfl
 | true =>
  have hd:=zbf.1 hv
  have hl:=zdW hd
  simp only [Bool.not_true,cond_false,if_true]
  have hn:zaC (d.length:Int):=by unfold zaC maxI; omega
  refine zaa (f543_eq [(d.length:Int)] (zco hn) (by simp)) ?_
  have k1:=zaJ [(d.length:Int)] (zco hn)
  simp only [List.length_singleton] at k1
  refine zaa (f508_loop d hd d.length 0 (((d.length:Int) - (0:Int)).toNat + 1) (encs [(d.length:Int)]) (by omega) (by omega) (by omega)) ?_
  have e:encs [(d.length:Int)]++encs (relsI d) = encs (delI d):=(zcg [(d.length:Int)] (relsI d)).symm
  rw [List.drop_zero,e]
theorem f556_loop (s:ByteArray) (hs:s.size≤1099511627776) (n:Int) (hn:n≤64):∀ (m j k:Nat) (t:Bs) (r:List Int),t <:+ zaj s→((j + m:Nat):Int) = n→m < k→r.length = j →
  (∃ l u,numsU m t = some (l,u)∧f556_l6 s n k (P s t) (j:Int) r = some (.inl ((P s u,()),(),(r++l,())))) ∨
  (numsU m t = none∧f556_l6 s n k (P s t) (j:Int) r = some (.inr (((0:Int),false,()),(),()))):=by
 intro m
 induction m with
 | zero =>
  intro j k t r ht h1 h2 h3
  obtain ⟨k,rfl⟩:∃ q,k = q + 1:=⟨k - 1,by omega⟩
  refine .inl ⟨[],t,rfl,?_⟩
  unfold f556_l6
  have e:decide ((j:Int) < n) = false:=by simp; omega
  simp only [e,cond_false,List.append_nil]
 | succ m ih =>
  intro j k t r ht h1 h2 h3
  obtain ⟨k,rfl⟩:∃ q,k = q + 1:=⟨k - 1,by omega⟩
  have e:decide ((j:Int) < n) = true:=by simp; omega
  have ea:∀ x:Int,decide (r.length + ([x]:List Int).length≤zac) = true:=fun x=>zaV (by simp; omega)
  have hf:=f550_num s hs ht
  simp only [numsU]
  cases hx:num t with
  | none =>
   rw [hx] at hf
   refine .inr ⟨rfl,?_⟩
   conv=>lhs; unfold f556_l6
   simp only [e,cond_true]
   refine zaa hf ?_
   rfl
  | some x =>
   obtain ⟨y,u⟩:=x
   rw [hx] at hf
   have hstep:f556_l6 s n (k + 1) (P s t) (j:Int) r = f556_l6 s n k (P s u) ((j + 1:Nat):Int) (r++[y]):=by
    conv=>lhs; unfold f556_l6
    simp only [e,cond_true]
    refine zaa hf ?_
    show (bif decide ((0:Int) ≠ 0) then _ else (bif decide (r.length + ([y]:List Int).length≤zac) then f556_l6 s n k (P s u) (IntKind.wrap .i64 ((j:Int) + 1)) (r++[y]) else none)) = _
    rw [show decide ((0:Int) ≠ 0) = false from by decide,cond_false,ea,cond_true,wS j (by omega)]
   rw [hstep]
   rcases ih (j + 1) k u (r++[y]) ((zdY hx).trans ht) (by omega) (by omega) (by simp [h3]) with ⟨l,v,g1,g2⟩ | ⟨g1,g2⟩
   ·refine .inl ⟨y :: l,v,by simp only [g1],?_⟩
    refine g2.trans ?_
    rw [List.append_assoc]
    rfl
   ·exact .inr ⟨by simp only [g1],g2⟩
theorem f556_eq (s:ByteArray) (hs:s.size≤1099511627776) {t:Bs} (ht:t <:+ zaj s) :
  (∃ l v,lab t = some (l,v)∧f556 s (P s t) = some (l,P s v,true,())) ∨ (lab t = none∧∃ l p,f556 s (P s t) = some (l,p,false,())):=by
 have hf:=f550_num s hs ht
 cases hx:num t with
 | none =>
  rw [hx] at hf
  refine .inr ⟨zci (by unfold numR; rw [hx]),[],0,?_⟩
  unfold f556
  exact zaa hf rfl
 | some x =>
  obtain ⟨n,u⟩:=x
  rw [hx] at hf
  have hu:=(zdY hx).trans ht
  by_cases h1:n < 0
  ·refine .inr ⟨zci (by unfold numR; rw [hx]; simp only; rw [if_neg (by omega)]),[],0,?_⟩
   unfold f556
   refine zaa hf ?_
   show (bif decide (n < 0) then _ else _) = _
   rw [zT h1]
   rfl
  ·by_cases h2:n > 64
   ·refine .inr ⟨zci (by unfold numR; rw [hx]; simp only; rw [if_neg (by omega)]),[],0,?_⟩
    unfold f556
    refine zaa hf ?_
    show (bif decide (n < 0) then _ else (bif decide (n > 64) then _ else _)) = _
    rw [zF h1,zT h2]
    rfl
   ·have hr:numR 0 64 t = some (n,u):=by unfold numR; rw [hx]; simp only; rw [if_pos (by omega)]
    have hstep:f556 s (P s t) = (f556_l6 s n ((n - (0:Int)).toNat + 1) (P s u) (0:Int) []).bind fun o3=>Sum.elim (fun o4=>(f81 o4.2.2.1).bind fun y8=>some (o4.2.2.1,o4.1.1,y8.1,())) (fun o5=>some ([],o5.1.1,o5.1.2.1,())) o3:=by
     conv=>lhs; unfold f556
     refine zaa hf ?_
     show (bif decide (n < 0) then _ else (bif decide (n > 64) then _ else _)) = _
     rw [zF h1,zF h2]
     rfl
    rw [hstep]
    rcases f556_loop s hs n (by omega) n.toNat 0 ((n - (0:Int)).toNat + 1) u [] hu (by omega) (by omega) rfl with ⟨l,v,g1,g2⟩ | ⟨g1,g2⟩
    ·have hlen:l.length≤1000000:=by have:=(zcJ.1 g1).1.1; omega
     have hl:=zlN hr g1
     have hfin:((f556_l6 s n ((n - (0:Int)).toNat + 1) (P s u) (0:Int) []).bind fun o3=>Sum.elim (fun o4=>(f81 o4.2.2.1).bind fun y8=>some (o4.2.2.1,o4.1.1,y8.1,())) (fun o5=>some ([],o5.1.1,o5.1.2.1,())) o3) = some (l,P s v,okLb l,()):=by
      refine zaa g2 ?_
      simp only [Sum.elim_inl,List.nil_append]
      exact zaa (f81_eq l hlen) rfl
     rw [hfin]
     cases ho:okLb l with
     | true=>exact .inl ⟨l,v,by rw [hl,ho]; rfl,rfl⟩
     | false=>exact .inr ⟨by rw [hl,ho]; rfl,l,_,rfl⟩
    ·exact .inr ⟨zou hr g1,[],0,zaa g2 rfl⟩
theorem f551_eq (s:ByteArray) (hs:s.size≤1099511627776) {t:Bs} (ht:t <:+ zaj s) :
  (∃ m v,may t = some (m,v)∧f551 s (P s t) = some (m.1,m.2,P s v,true,())) ∨ (may t = none∧∃ b l p,f551 s (P s t) = some (b,l,p,false,())):=by
 have hf:=f550_num s hs ht
 cases hx:num t with
 | none =>
  rw [hx] at hf
  refine .inr ⟨zcx (by unfold numR; rw [hx]),false,[],0,?_⟩
  unfold f551
  exact zaa hf rfl
 | some x =>
  obtain ⟨n,u⟩:=x
  rw [hx] at hf
  have hu:=(zdY hx).trans ht
  by_cases h1:n < 0
  ·refine .inr ⟨zcx (by unfold numR; rw [hx]; simp only; rw [if_neg (by omega)]),false,[],0,?_⟩
   unfold f551
   refine zaa hf ?_
   show (bif decide (n < 0) then _ else _) = _
   rw [zT h1]
   rfl
  ·by_cases h2:n > 1
   ·refine .inr ⟨zcx (by unfold numR; rw [hx]; simp only; rw [if_neg (by omega)]),false,[],0,?_⟩
    unfold f551
    refine zaa hf ?_
    show (bif decide (n < 0) then _ else (bif decide (n > 1) then _ else _)) = _
    rw [zF h1,zT h2]
    rfl
   ·have hr:numR 0 1 t = some (n,u):=by unfold numR; rw [hx]; simp only; rw [if_pos (by omega)]
    by_cases h3:n = 0
    ·subst h3
     refine .inl ⟨(false,[]),u,zdw hr,?_⟩
     unfold f551
     exact zaa hf rfl
    ·have hstep:f551 s (P s t) = (f556 s (P s u)).bind fun y2=>some (true,y2.1,y2.2.1,y2.2.2.1,()):=by
      conv=>lhs; unfold f551
      refine zaa hf ?_
      show (bif decide (n < 0) then _ else (bif decide (n > 1) then _ else (bif decide (n = 0) then _ else _))) = _
      rw [zF h1,zF h2,zF h3]
      rfl
     rw [hstep]
     rcases f556_eq s hs hu with ⟨l,v,g1,g2⟩ | ⟨g1,l,p,g2⟩
     ·exact .inl ⟨(true,l),v,zeK hr h3 g1,zaa g2 rfl⟩
     ·exact .inr ⟨zbu hr h3 g1,true,l,p,zaa g2 rfl⟩
theorem zow {t u:Bs} {m:Lb} (h:may t = some (m,u)):u <:+ t:=by
 obtain ⟨_,rfl⟩:=zcZ.1 h
 exact List.suffix_append _ _
abbrev rNo:Option (outDen f512_l6o):=some (.inr (((0:Int),(160:Int),()),(),((),())))
theorem f512_round (s:ByteArray) (hs:s.size≤1099511627776) (n:Int) (k j:Nat) (hj:j≤1000) (hn:(j:Int) < n) {t:Bs} (ht:t <:+ zaj s) (r:List Rl) (hr:r.length≤1000) :
  f512_l6 s n (k + 1) (P s t) (j:Int) r = match rel1U t with
   | some (x,u)=>f512_l6 s n k (P s u) ((j + 1:Nat):Int) (r++[x])
   | none=>rNo:=by
 have ea:∀ x:Rl,decide (r.length + ([x]:List Rl).length≤zac) = true:=fun x=>zaV (by simp; omega)
 have e:decide ((j:Int) < n) = true:=zT hn
 have hz:decide ((0:Int) ≠ 0) = false:=by decide
 have h10:decide ((10:Int) ≠ 0) = true:=by decide
 conv=>lhs; unfold f512_l6
 simp only [e,cond_true]
 have hf:=f550_num s hs ht
 unfold rel1U
 cases hx:num t with
 | none =>
  rw [hx] at hf
  refine zaa hf ?_
  obtain ⟨y,hy⟩:=f550_zero s hs
  refine zaa hy ?_
  rfl
 | some x =>
  obtain ⟨kd,u⟩:=x
  rw [hx] at hf
  have hu:=(zdY hx).trans ht
  refine zaa hf ?_
  have hg:=f550_num s hs hu
  dsimp only
  cases hy:num u with
  | none =>
   rw [hy] at hg
   refine zaa hg ?_
   rfl
  | some y =>
   obtain ⟨i,v⟩:=y
   rw [hy] at hg
   have hv:=(zdY hy).trans hu
   refine zaa hg ?_
   simp only [hz,cond_false]
   rcases f551_eq s hs hv with ⟨a,w,g1,g2⟩ | ⟨g1,b,l,p,g2⟩
   ·have hw:=(zow g1).trans hv
    refine zaa g2 ?_
    rw [g1]
    simp only [Bool.not_true,cond_false]
    rcases f551_eq s hs hw with ⟨c,z,q1,q2⟩ | ⟨q1,b,l,p,q2⟩
    ·refine zaa q2 ?_
     rw [q1]
     simp only [Bool.not_true,cond_false,ea,cond_true,wS j (by omega)]
     rfl
    ·refine zaa q2 ?_
     rw [q1]
     rfl
   ·refine zaa g2 ?_
    rw [g1]
    rfl
theorem f512_loop (s:ByteArray) (hs:s.size≤1099511627776) (n:Int) (hn:n≤168):∀ (m j k:Nat) (t:Bs) (r:List Rl),t <:+ zaj s→((j + m:Nat):Int) = n→m < k→r.length = j →
  (∃ d u,relsU m t = some (d,u)∧f512_l6 s n k (P s t) (j:Int) r = some (.inl ((P s u,()),(),((),(),r++d,())))) ∨
  (relsU m t = none∧f512_l6 s n k (P s t) (j:Int) r = rNo):=by
 intro m
 induction m with
 | zero =>
  intro j k t r ht h1 h2 h3
  obtain ⟨k,rfl⟩:∃ q,k = q + 1:=⟨k - 1,by omega⟩
  refine .inl ⟨[],t,rfl,?_⟩
  unfold f512_l6
  have e:decide ((j:Int) < n) = false:=by simp; omega
  simp only [e,cond_false,List.append_nil]
 | succ m ih =>
  intro j k t r ht h1 h2 h3
  obtain ⟨k,rfl⟩:∃ q,k = q + 1:=⟨k - 1,by omega⟩
  rw [f512_round s hs n k j (by omega) (by omega) ht r (by omega)]
  simp only [relsU]
  cases hx:rel1U t with
  | none=>exact .inr ⟨rfl,rfl⟩
  | some x =>
   obtain ⟨x,u⟩:=x
   have hu:u <:+ t:=by
    obtain ⟨_,rfl⟩:=zfE.1 hx
    exact List.suffix_append _ _
   rcases ih (j + 1) k u (r++[x]) (hu.trans ht) (by omega) (by omega) (by simp [h3]) with ⟨d,v,g1,g2⟩ | ⟨g1,g2⟩
   ·refine .inl ⟨x :: d,v,by simp only [g1],?_⟩
    refine g2.trans ?_
    rw [List.append_assoc]
    rfl
   ·exact .inr ⟨by simp only [g1],g2⟩
theorem zo1 {d:List Rl} {n:Nat} (h:d.length = n∧∀ r∈d,okU r) (hn:n≤168):smD d:=⟨by omega,fun r hr=>by
 obtain ⟨_,_,h1,h2⟩:=h.2 r hr
 exact ⟨Nat.le_trans h1.1.1 (by decide),Nat.le_trans h2.1.1 (by decide)⟩⟩
theorem f512_eq (s:ByteArray) (hs:s.size≤1099511627776) (a:Int):f512 s a = decD s a:=by
 unfold decD
 by_cases ha:0≤a∧a≤(s.size:Int)
 ·rw [if_pos ha]
  obtain ⟨b,rfl⟩:∃ b:Nat,a = (b:Int):=⟨a.toNat,by omega⟩
  have hb:b≤s.size:=by omega
  rw [Int.toNat_natCast]
  have ht:(zaj s).drop b <:+ zaj s:=List.drop_suffix _ _
  rw [← znU s b hb]
  generalize (zaj s).drop b = t at ht
  have hf:=f550_num s hs ht
  have hno:∀ h:numR 0 168 t = none,del t = none:=fun h=>by unfold del; rw [h]
  cases hx:num t with
  | none =>
   rw [hx] at hf
   rw [hno (by unfold numR; rw [hx])]
   unfold f512
   exact zaa hf rfl
  | some x =>
   obtain ⟨n,u⟩:=x
   rw [hx] at hf
   have hu:=(zdY hx).trans ht
   by_cases h1:n < 0
   ·rw [hno (by unfold numR; rw [hx]; simp only; rw [if_neg (by omega)])]
    unfold f512
    refine zaa hf ?_
    show (bif decide (n < 0) then _ else _) = _
    rw [zT h1]
    rfl
   ·by_cases h2:n > 168
    ·rw [hno (by unfold numR; rw [hx]; simp only; rw [if_neg (by omega)])]
     unfold f512
     refine zaa hf ?_
     show (bif decide (n < 0) then _ else (bif decide (n > 168) then _ else _)) = _
     rw [zF h1,zT h2]
     rfl
    ·have hr:numR 0 168 t = some (n,u):=by unfold numR; rw [hx]; simp only; rw [if_pos (by omega)]
     have hstep:f512 s (P s t) = (f512_l6 s n ((n - (0:Int)).toNat + 1) (P s u) (0:Int) []).bind fun o6=>Sum.elim (fun o7=>(f20 (o7.2.2.2.2.1,())).bind fun y11=>bif (!y11.1) then some (([],()),(0:Int),(160:Int),()) else some ((o7.2.2.2.2.1,()),o7.1.1,(0:Int),())) (fun o8=>some (([],()),o8.1.1,o8.1.2.1,())) o6:=by
      conv=>lhs; unfold f512
      refine zaa hf ?_
      show (bif decide (n < 0) then _ else (bif decide (n > 168) then _ else _)) = _
      rw [zF h1,zF h2]
      rfl
     rw [hstep]
     rcases f512_loop s hs n (by omega) n.toNat 0 ((n - (0:Int)).toNat + 1) u [] hu (by omega) (by omega) rfl with ⟨d,v,g1,g2⟩ | ⟨g1,g2⟩
     ·have hd:=(zcK.1 g1).1
      have hsm:smD d:=zo1 hd (by omega)
      refine zaa g2 ?_
      simp only [Sum.elim_inl,List.nil_append]
      refine zaa (f20_eq d hsm) ?_
      cases hv:validD d with
      | true =>
       rw [del_U hr g1 hv]
       simp only [hv,if_true]
       rfl
      | false =>
       have hbad:=znc hr g1 hv
       cases hdel:del t with
       | none=>rfl
       | some y =>
        obtain ⟨d',v'⟩:=y
        simp only [hbad d' v' hdel]
        rfl
     ·rw [zov hr g1]
      exact zaa g2 rfl
 ·rw [if_neg ha]
  have hout:f550 s a = some (0,0,2,()):=by
   unfold f550
   by_cases h1:a < 0
   ·rw [zT h1]; rfl
   ·have h2:a > (s.size:Int):=by omega
    rw [zF h1,zT h2]; rfl
  unfold f512
  exact zaa hout rfl
theorem f516_eq (s:ByteArray) (hs:s.size≤1099511627776):f516 s = decL s:=by
 have h:=f556_eq s hs (List.suffix_refl (zaj s))
 rw [P_all] at h
 unfold f516 decL
 rcases h with ⟨l,v,g1,g2⟩ | ⟨g1,l,p,g2⟩
 ·have hv:v <:+ zaj s:=by
   obtain ⟨_,e⟩:=zfD.1 g1
   rw [e]
   exact List.suffix_append _ _
  refine zaa g2 ?_
  rw [g1]
  simp only [Bool.not_true,cond_false]
  by_cases hv0:v = []
  ·have:decide (P s v ≠ (s.size:Int)) = false:=by
    rw [decide_eq_false_iff_not]
    exact fun h=>h ((P_end hv).2 hv0)
   rw [this,if_pos hv0]
   rfl
  ·have:decide (P s v ≠ (s.size:Int)) = true:=zT fun h=>hv0 ((P_end hv).1 h)
   rw [this,if_neg hv0]
   rfl
 ·refine zaa g2 ?_
  rw [g1]
  rfl
end Go.V.G
namespace Go.V.G
open Go.Proofs
noncomputable section
def f503_l16h:Ann:={ env:=[(2,.ty (.sl yI)),(4,YI),(24,.cst (.row 114 .whole)),(25,.ty .str),(27,.ty .str),(136,.ty (.sl .str)),(137,YI),(138,YI),(143,.ty (.sl yI)),(144,YI),(145,YI)],bxs:=[(114,.row (.int .u8) false)] }
def f503_l16o:List (Ex × Ann):=[((.exit 2),{ env:=[(2,.ty (.sl yI)),(4,YI),(24,.cst (.row 114 .whole)),(25,.ty .str),(136,.ty (.sl .str)),(137,YI),(138,YI)],bxs:=[(114,.row (.int .u8) false)] }),(.ret,{ env:=[(14,.ty .bool)] })]
def f503_l16 (t2:(List Int)) (t4:Int) (t25:ByteArray) (t27:ByteArray) (t136:(List ByteArray)) (t137:Int) (t138:Int) (t143:(List Int)) (t144:Int) (r114:(List Int)):Nat→Int→Option (outDen f503_l16o)
 | 0,_=>none
 | k + 1,t145 =>
 bif (decide (t145 < t144)) then
 bif (inR t145 t143.length) then
 (f30 t27 (at_ yI t143 t145)).bind fun y17 =>
 (f512 t27 (at_ yI t143 t145)).bind fun y18 =>
 bif (decide (y17.2.2.1 ≠ y18.2.2.1)) then
 some (.inr ((false,()),(),()))
 else
 bif (decide (y17.2.1 ≠ y18.2.1)) then
 some (.inr ((false,()),(),()))
 else
 (f13 y17.1 y18.1).bind fun y19 =>
 bif (!y19.1) then
 some (.inr ((false,()),(),()))
 else
 bif (decide (y17.2.2.1 = (0:Int))) then
 (f29 y17.1).bind fun y20 =>
 bif (decide (y20.2.1 ≠ (0:Int))) then
 some (.inr ((false,()),(),()))
 else
 let v21:Bool:=(decide ((at_ yI t143 t145) < (0:Int)))
 bif v21 then
 some (.inr ((false,()),(),()))
 else
 let v22:Bool:=(decide (y17.2.1 < (at_ yI t143 t145)))
 bif v22 then
 some (.inr ((false,()),(),()))
 else
 bif (decide (y17.2.1 > (t27.size:Int))) then
 some (.inr ((false,()),(),()))
 else
 bif (cutOk t27.size (some (at_ yI t143 t145)) (some y17.2.1)) then
 let v23:ByteArray:=(cutS t27 (some (at_ yI t143 t145)) (some y17.2.1))
 bif (!(decide (y20.1 = v23))) then
 some (.inr ((false,()),(),()))
 else
 f503_l16 t2 t4 t25 t27 t136 t137 t138 t143 t144 r114 k (IntKind.wrap .i64 (t145 + 1))
 else none
 else
 f503_l16 t2 t4 t25 t27 t136 t137 t138 t143 t144 r114 k (IntKind.wrap .i64 (t145 + 1))
 else none
 else
 some (.inl ((t2,t4,t25,t136,t137,t138,()),(),(r114,())))
def f503_l16_n (n:Nat) (x:f503_l16h.den):=f503_l16 x.1.1 x.1.2.1 x.1.2.2.1 x.1.2.2.2.1 x.1.2.2.2.2.1 x.1.2.2.2.2.2.1 x.1.2.2.2.2.2.2.1 x.1.2.2.2.2.2.2.2.1 x.1.2.2.2.2.2.2.2.2.1 x.2.2.1 n x.1.2.2.2.2.2.2.2.2.2.1
def f503_l16s:LSpec:={ head:=f503_l16h,outs:=f503_l16o,fn:=fun x=>f503_l16_n ((x.1.2.2.2.2.2.2.2.2.1 - x.1.2.2.2.2.2.2.2.2.2.1).toNat + 1) x }
def f503_l13h:Ann:={ env:=[(2,.ty (.sl yI)),(4,YI),(24,.cst (.row 114 .whole)),(25,.ty .str),(136,.ty (.sl .str)),(137,YI),(138,YI)],bxs:=[(114,.row (.int .u8) false)] }
def f503_l13o:List (Ex × Ann):=[((.exit 0),{ env:=[(2,.ty (.sl yI)),(24,.cst (.row 114 .whole)),(25,.ty .str)],bxs:=[(114,.row (.int .u8) false)] }),(.ret,{ env:=[(14,.ty .bool)] })]
def f503_l13:Nat→(List Int)→Int→ByteArray→(List ByteArray)→Int→Int→(List Int)→Option (outDen f503_l13o)
 | 0,_,_,_,_,_,_,_=>none
 | k + 1,t2,t4,t25,t136,t137,t138,r114 =>
 bif (decide (t138 < t137)) then
 bif (inR t138 t136.length) then
 let v16:Int:=(([t4,(0:Int)]:List Int).length:Int)
 (f503_l16 t2 t4 t25 (at_ .str t136 t138) t136 t137 t138 ([t4,(0:Int)]:List Int) v16 r114 ((v16 - (0:Int)).toNat + 1) (0:Int)).bind fun o24 =>
 Sum.elim (fun o25 =>
 let u27:(List Int):=o25.1.1
 let u28:Int:=o25.1.2.1
 let u29:ByteArray:=o25.1.2.2.1
 let u30:(List ByteArray):=o25.1.2.2.2.1
 let u31:Int:=o25.1.2.2.2.2.1
 let u32:Int:=o25.1.2.2.2.2.2.1
 let u33:(List Int):=o25.2.2.1
 f503_l13 k u27 u28 u29 u30 u31 (IntKind.wrap .i64 (u32 + 1)) u33) (fun o26 =>
 let u34:Bool:=o26.1.1
 some (.inr ((u34,()),(),()))) o24
 else none
 else
 some (.inl ((t2,t25,()),(),(r114,())))
def f503_l13_n (n:Nat) (x:f503_l13h.den):=f503_l13 n x.1.1 x.1.2.1 x.1.2.2.1 x.1.2.2.2.1 x.1.2.2.2.2.1 x.1.2.2.2.2.2.1 x.2.2.1
def f503_l13s:LSpec:={ head:=f503_l13h,outs:=f503_l13o,fn:=fun x=>f503_l13_n ((x.1.2.2.2.2.1 - x.1.2.2.2.2.2.1).toNat + 1) x }
def f503_l34h:Ann:={ env:=[(38,.ty (.sl yI)),(39,.ty .str),(40,YI),(238,.ty (.sl .str)),(239,YI),(240,YI)] }
def f503_l34o:List (Ex × Ann):=[((.exit 4),{ env:=[(38,.ty (.sl yI)),(39,.ty .str),(40,YI)] }),(.ret,{ env:=[(14,.ty .bool)] })]
def f503_l34 (t38:(List Int)) (t39:ByteArray) (t40:Int) (t238:(List ByteArray)) (t239:Int):Nat→Int→Option (outDen f503_l34o)
 | 0,_=>none
 | k + 1,t240 =>
 bif (decide (t240 < t239)) then
 bif (inR t240 t238.length) then
 (f28 (at_ .str t238 t240)).bind fun y45 =>
 (f516 (at_ .str t238 t240)).bind fun y46 =>
 bif (decide (y45.2.1 ≠ y46.2.1)) then
 some (.inr ((false,()),(),()))
 else
 (f26 y45.1 y46.1).bind fun y47 =>
 bif (!y47.1) then
 some (.inr ((false,()),(),()))
 else
 f503_l34 t38 t39 t40 t238 t239 k (IntKind.wrap .i64 (t240 + 1))
 else none
 else
 some (.inl ((t38,t39,t40,()),(),()))
def f503_l34_n (n:Nat) (x:f503_l34h.den):=f503_l34 x.1.1 x.1.2.1 x.1.2.2.1 x.1.2.2.2.1 x.1.2.2.2.2.1 n x.1.2.2.2.2.2.1
def f503_l34s:LSpec:={ head:=f503_l34h,outs:=f503_l34o,fn:=fun x=>f503_l34_n ((x.1.2.2.2.2.1 - x.1.2.2.2.2.2.1).toNat + 1) x }
def f503 (a0:(List (List Int))) (a1:(List (List Int))) (a2:(List Int)) (a3:ByteArray) (a4:Int) (a5:Int) (a6:Int):Option (Bool × Unit) :=
 (f7 ).bind fun y1 =>
 bif (!y1.1) then
 some (false,())
 else
 (f8 a0).bind fun y2 =>
 (f8 a1).bind fun y3 =>
 (f12 y2.1 y3.1).bind fun y4 =>
 (f29 y4.1).bind fun y5 =>
 (f508 y4.1).bind fun y6 =>
 bif (catOk (⟨#[97,98]⟩:ByteArray) y5.1) then
 bif (catOk ((⟨#[97,98]⟩:ByteArray)++y5.1) (⟨#[99]⟩:ByteArray)) then
 let v7:ByteArray:=(((⟨#[97,98]⟩:ByteArray)++y5.1)++(⟨#[99]⟩:ByteArray))
 (f30 v7 (2:Int)).bind fun y8 =>
 bif (decide (y4.2.1 ≠ (0:Int))) then
 some (false,())
 else
 bif (decide (y5.2.1 ≠ y6.2.1)) then
 some (false,())
 else
 bif (!(decide (y5.1 = y6.1))) then
 some (false,())
 else
 bif (decide (y8.2.2.1 ≠ (0:Int))) then
 some (false,())
 else
 let v9:Int:=(IntKind.wrap .i64 ((2:Int) + (y5.1.size:Int)))
 bif (decide (y8.2.1 ≠ v9)) then
 some (false,())
 else
 (f13 y8.1 y4.1).bind fun y10 =>
 bif (!y10.1) then
 some (false,())
 else
 bif (decide ((y5.1.size:Int) = (0:Int))) then
 some (false,())
 else
 (f511 a6 ((zau y5.1).length:Int)).bind fun y11 =>
 bif (inR y11.1 (zau y5.1).length) then
 let v12:Int:=(if (300:Int) < (a3.size:Int) then (300:Int) else (a3.size:Int))
 bif (cutOk a3.size none (some v12)) then
 let v13:ByteArray:=(ofBytes ((zau y5.1).set (Int.toNat y11.1) a5))
 (f511 a6 (y5.1.size:Int)).bind fun y14 =>
 bif (cutOk y5.1.size none (some y14.1)) then
 let v15:Int:=(([(cutS a3 none (some v12)),v13,(cutS y5.1 none (some y14.1))]:List ByteArray).length:Int)
 (f503_l13 ((v15 - (0:Int)).toNat + 1) a2 a4 (cutS a3 none (some v12)) ([(cutS a3 none (some v12)),v13,(cutS y5.1 none (some y14.1))]:List ByteArray) v15 (0:Int) ((zau y5.1).set (Int.toNat y11.1) a5)).bind fun o35 =>
 Sum.elim (fun o36 =>
 let u38:(List Int):=o36.1.1
 let u39:ByteArray:=o36.1.2.1
 let u40:(List Int):=o36.2.2.1
 let v41:Int:=(if (66:Int) < (u38.length:Int) then (66:Int) else (u38.length:Int))
 bif (cutOk u38.length none (some v41)) then
 (f27 (u38.take (Int.toNat v41))).bind fun y42 =>
 (f514 (u38.take (Int.toNat v41))).bind fun y43 =>
 bif (!(decide (y42.1 = y43.1))) then
 some (false,())
 else
 bif (decide (y42.2.1 ≠ y43.2.1)) then
 some (false,())
 else
 let v44:Int:=(([u39,y42.1,(ofBytes u40)]:List ByteArray).length:Int)
 (f503_l34 (u38.take (Int.toNat v41)) y42.1 y42.2.1 ([u39,y42.1,(ofBytes u40)]:List ByteArray) v44 ((v44 - (0:Int)).toNat + 1) (0:Int)).bind fun o48 =>
 Sum.elim (fun o49 =>
 let u51:(List Int):=o49.1.1
 let u52:ByteArray:=o49.1.2.1
 let u53:Int:=o49.1.2.2.1
 bif (decide (u53 = (0:Int))) then
 (f28 u52).bind fun y54 =>
 bif (decide (y54.2.1 = (0:Int))) then
 (f26 y54.1 u51).bind fun y55 =>
 some (y55.1,())
 else
 some (false,())
 else
 some (true,())) (fun o50 =>
 let u56:Bool:=o50.1.1
 some (u56,())) o48
 else none) (fun o37 =>
 let u57:Bool:=o37.1.1
 some (u57,())) o35
 else none
 else none
 else none
 else none
 else none
def f503s:PSpec:={ args:=[(.sl (.arr 4 yI)),(.sl (.arr 4 yI)),(.sl yI),.str,yI,(.int .u8),yI],res:=[.bool],fn:=fun x=>f503 x.1 x.2.1 x.2.2.1 x.2.2.2.1 x.2.2.2.2.1 x.2.2.2.2.2.1 x.2.2.2.2.2.2.1 }
noncomputable def f503c:Code:=Tryz.f3.body.getD .skip
noncomputable def f503e:Env0:={ C:=cfgF,P:=[(4,f7s),(5,f12s),(6,f8s),(7,f29s),(8,f508s),(9,f30s),(10,f13s),(11,f511s),(12,f512s),(13,f27s),(14,f514s),(15,f28s),(16,f516s),(17,f26s)],L:=[(⟨12,0,3,16⟩,f503_l16s),(⟨12,0,3,13⟩,f503_l13s),(⟨12,0,3,34⟩,f503_l34s)],F:=[(3,Tryz.f3)] }
theorem f503_l16y:zan f503e 12 3 0 (zao f503c 16) f503_l16s :=
 zae (by kernel_rfl) f503_l16_n (fun x o h=>⟨_,h⟩) (fun x=>by kernel_rfl) (fun n x=>by kernel_rfl)
theorem f503_l13y:zan f503e 12 3 0 (zao f503c 13) f503_l13s :=
 zae (by kernel_rfl) f503_l13_n (fun x o h=>⟨_,h⟩) (fun x=>by kernel_rfl) (fun n x=>by kernel_rfl)
theorem f503_l34y:zan f503e 12 3 0 (zao f503c 34) f503_l34s :=
 zae (by kernel_rfl) f503_l34_n (fun x o h=>⟨_,h⟩) (fun x=>by kernel_rfl) (fun n x=>by kernel_rfl)
theorem f503r:zR f503e 3 Tryz.f3 f503c f503s:=by intro x; kernel_rfl
theorem f503k:zE f503e:=zO zaf ⟨⟨f7p,f7n⟩,⟨f12p,f12n⟩,⟨f8p,f8n⟩,⟨f29p,f29n⟩,⟨f508p,f508n⟩,⟨f30p,f30n⟩,⟨f13p,f13n⟩,⟨f511p,f511n⟩,⟨f512p,f512n⟩,⟨f27p,f27n⟩,⟨f514p,f514n⟩,⟨f28p,f28n⟩,⟨f516p,f516n⟩,⟨f26p,f26n⟩,trivial⟩ trivial ⟨zK Tryz.func3,trivial⟩ ⟨⟨Tryz.f3,f503c,rfl,rfl,f503_l16y⟩,⟨Tryz.f3,f503c,rfl,rfl,f503_l13y⟩,⟨Tryz.f3,f503c,rfl,rfl,f503_l34y⟩,trivial⟩
theorem f503p:zU 3 f503s:=zP f503k Tryz.f3 f503c f503r
end
end Go.V.G
namespace Go.V.G
open Go.Proofs
open Go.V.K
theorem f503_ks (t2:List Int) (t4:Int) (t25 v:ByteArray) (vs:List ByteArray) (n i:Int) (ks r:List Int) (hv:v.size≤1099511627776) (hl:ks.length≤1000) :
  ∀ (m j k:Nat),j + m = ks.length→m < k →
  f503_l16 t2 t4 t25 v vs n i ks (ks.length:Int) r k (j:Int) = some (.inl ((t2,t4,t25,vs,n,i,()),(),(r,()))):=by
 intro m
 induction m with
 | zero =>
  intro j k h1 h2
  obtain ⟨k,rfl⟩:∃ q,k = q + 1:=⟨k - 1,by omega⟩
  conv=>lhs; unfold f503_l16
  have e:¬ j < ks.length:=by omega
  simp only [Int.ofNat_lt,e,decide_false,cond_false]
 | succ m ih =>
  intro j k h1 h2
  obtain ⟨k,rfl⟩:∃ q,k = q + 1:=⟨k - 1,by omega⟩
  conv=>lhs; unfold f503_l16
  have hj:j < ks.length:=by omega
  simp only [Int.ofNat_lt,inRN,hj,decide_true,cond_true]
  have go:f503_l16 t2 t4 t25 v vs n i ks (ks.length:Int) r k (IntKind.wrap .i64 ((j:Int) + 1)) = some (.inl ((t2,t4,t25,vs,n,i,()),(),(r,()))):=by
   rw [wS j (by omega)]
   exact ih (j + 1) k (by omega) (by omega)
  generalize at_ yI ks (j:Int) = a
  have g1:=f30_eq v hv a
  have g2:=f512_eq v hv a
  rcases zkO v a with h | ⟨d,e,h,hd⟩
  ·rw [h] at g1 g2
   refine zaa g1 ?_
   refine zaa g2 ?_
   show (bif decide ((160:Int) ≠ 160) then _ else _) = _
   rw [show decide ((160:Int) ≠ 160) = false from by simp,cond_false]
   show (bif decide ((0:Int) ≠ 0) then _ else _) = _
   rw [show decide ((0:Int) ≠ 0) = false from by simp,cond_false]
   refine zaa (zi1 (d:=[]) zoa) ?_
   exact go
  ·obtain ⟨o1,o2,o3,o4,o5⟩:=zot h
   rw [h] at g1 g2
   refine zaa g1 ?_
   refine zaa g2 ?_
   have hf:=f29_eq d (zjX hd)
   rw [if_pos (zbf.2 hd)] at hf
   have c1:decide ((0:Int) ≠ 0) = false:=by simp
   have c2:decide (e ≠ e) = false:=by simp
   have c3:decide (a < 0) = false:=by simp; omega
   have c4:decide (e < a) = false:=by simp; omega
   have c5:decide (e > (v.size:Int)) = false:=by simp; omega
   have c6:cutOk v.size (some a) (some e) = true:=by unfold cutOk; simp; omega
   show (bif decide ((0:Int) ≠ 0) then _ else _) = _
   rw [c1,cond_false]
   show (bif decide (e ≠ e) then _ else _) = _
   rw [c2,cond_false]
   refine zaa (zi1 hd) ?_
   have c9:decide ((0:Int) = 0) = true:=zT rfl
   simp only [c9,Bool.not_true,cond_false,cond_true]
   refine zaa hf ?_
   have c7:decide (encs (delI d) = cutS v (some a) (some e)) = true:=by rw [o5]; simp
   simp only [c1,c3,c4,c5,c6,c7,cond_false,cond_true,Bool.not_true]
   exact go
theorem f503_vs (t2:List Int) (t4:Int) (t25:ByteArray) (vs:List ByteArray) (r:List Int) (hv:∀ v∈vs,v.size≤1099511627776) (hl:vs.length≤1000) :
  ∀ (m j k:Nat),j + m = vs.length→m < k →
  f503_l13 k t2 t4 t25 vs (vs.length:Int) (j:Int) r = some (.inl ((t2,t25,()),(),(r,()))):=by
 intro m
 induction m with
 | zero =>
  intro j k h1 h2
  obtain ⟨k,rfl⟩:∃ q,k = q + 1:=⟨k - 1,by omega⟩
  conv=>lhs; unfold f503_l13
  have e:¬ j < vs.length:=by omega
  simp only [Int.ofNat_lt,e,decide_false,cond_false]
 | succ m ih =>
  intro j k h1 h2
  obtain ⟨k,rfl⟩:∃ q,k = q + 1:=⟨k - 1,by omega⟩
  conv=>lhs; unfold f503_l13
  have hj:j < vs.length:=by omega
  simp only [Int.ofNat_lt,inRN,hj,decide_true,cond_true]
  have hs:(at_ .str vs (j:Int)).size≤1099511627776:=by
   rw [atN .str vs j hj]; exact hv _ (List.getElem_mem _)
  refine zaa (f503_ks t2 t4 t25 (at_ .str vs (j:Int)) vs (vs.length:Int) (j:Int) [t4,0] r hs (by simp) 2 0 3 rfl (by omega)) ?_
  show f503_l13 k t2 t4 t25 vs (vs.length:Int) (IntKind.wrap .i64 ((j:Int) + 1)) r = _
  rw [wS j (by omega)]
  exact ih (j + 1) k (by omega) (by omega)
theorem f503_ls (t38:List Int) (t39:ByteArray) (t40:Int) (vs:List ByteArray) (hv:∀ v∈vs,v.size≤1099511627776) (hl:vs.length≤1000) :
  ∀ (m j k:Nat),j + m = vs.length→m < k →
  f503_l34 t38 t39 t40 vs (vs.length:Int) k (j:Int) = some (.inl ((t38,t39,t40,()),(),())):=by
 intro m
 induction m with
 | zero =>
  intro j k h1 h2
  obtain ⟨k,rfl⟩:∃ q,k = q + 1:=⟨k - 1,by omega⟩
  conv=>lhs; unfold f503_l34
  have e:¬ j < vs.length:=by omega
  simp only [Int.ofNat_lt,e,decide_false,cond_false]
 | succ m ih =>
  intro j k h1 h2
  obtain ⟨k,rfl⟩:∃ q,k = q + 1:=⟨k - 1,by omega⟩
  conv=>lhs; unfold f503_l34
  have hj:j < vs.length:=by omega
  simp only [Int.ofNat_lt,inRN,hj,decide_true,cond_true]
  have hs:(at_ .str vs (j:Int)).size≤1099511627776:=by
   rw [atN .str vs j hj]; exact hv _ (List.getElem_mem _)
  generalize at_ .str vs (j:Int) = v at hs
  have g1:=f28_eq v hs
  have g2:=f516_eq v hs
  obtain ⟨l,z,h,hz⟩:=znb (s:=v)
  rw [h] at g1 g2
  have g3:=f26_eq l l (by omega)
  rw [zT rfl] at g3
  refine zaa g1 ?_
  refine zaa g2 ?_
  show (bif decide (z ≠ z) then _ else _) = _
  rw [show decide (z ≠ z) = false from by simp,cond_false]
  refine zaa g3 ?_
  show f503_l34 t38 t39 t40 vs (vs.length:Int) k (IntKind.wrap .i64 ((j:Int) + 1)) = _
  rw [wS j (by omega)]
  exact ih (j + 1) k (by omega) (by omega)
theorem zdZ (s:ByteArray):(zau s).length = s.size:=by
 unfold zau
 rw [List.length_map,Array.length_toList]
 rfl
theorem ofBytes_size (l:List Int):(ofBytes l).size = l.length:=by
 unfold ofBytes
 show ((l.map fun n=>UInt8.ofNat n.toNat).toArray).size = _
 simp
theorem zlO (s:ByteArray) (h:Int):(cutS s none (some h)).size≤h.toNat∧(cutS s none (some h)).size≤s.size:=by
 unfold cutS cutHi
 rw [ByteArray.size_extract]
 show (min h.toNat s.size - 0≤_)∧(min h.toNat s.size - 0≤_)
 omega
theorem pick_eq (a:Int) (n:Nat) (ha:i64 a) (hn:0 < n):∃ p:Nat,f511 a (n:Int) = some ((p:Int),())∧p < n:=by
 have key:∀ b:Int,0≤b→∃ p:Nat,(bif decide ((n:Int) ≠ 0) then some (Int.tmod b (n:Int),()) else none) = some ((p:Int),())∧p < n:=by
  intro b hb
  have e:decide ((n:Int) ≠ 0) = true:=by simp; omega
  rw [e,cond_true,Int.tmod_eq_emod_of_nonneg hb]
  have h1:=Int.emod_nonneg b (b:=(n:Int)) (by omega)
  have h2:=Int.emod_lt_of_pos b (b:=(n:Int)) (by omega)
  exact ⟨(b % (n:Int)).toNat,by rw [Int.toNat_of_nonneg h1],by omega⟩
 unfold f511
 unfold i64 at ha
 by_cases h:a < 0
 ·rw [zT h,cond_true]
  rw [wrap_i64 (a + 1) (by omega) (by omega),wrap_i64 (0 - (a + 1)) (by omega) (by omega)]
  exact key _ (by omega)
 ·rw [zF h,cond_false]
  exact key _ (by omega)
theorem f503_eq (x y:List (List Int)) (l:List Int) (s:ByteArray) (at' b p:Int) (hx:iRows x) (hy:iRows y) (hp:i64 p):f503 x y l s at' b p = some (true,()):=by
 obtain ⟨ca,h1,ha⟩:=f8_eq x hx
 obtain ⟨cb,h2,hb⟩:=f8_eq y hy
 have hd:=zoQ ha hb
 have h12:=zn9 ha hb
 generalize dif (la ca) (la cb) = d at hd h12
 have g1:=f29_eq d (zjX hd)
 have g2:=f508_eq d (zjX hd)
 rw [if_pos (zbf.2 hd)] at g1 g2
 have e1:=zhl (d:=d)
 have e2:=zhm hd
 have e3:=zm9 hd (⟨#[97,98]⟩:ByteArray) (⟨#[99]⟩:ByteArray)
 generalize encs (delI d) = t at g1 g2 e1 e2 e3
 have z2:(⟨#[97,98]⟩:ByteArray).size = 2:=rfl
 have z1:(⟨#[99]⟩:ByteArray).size = 1:=rfl
 have e4:=f30_eq ((⟨#[97,98]⟩:ByteArray)++t++(⟨#[99]⟩:ByteArray)) (by simp only [ByteArray.size_append,z2,z1]; omega) 2
 rw [show decD ((⟨#[97,98]⟩:ByteArray)++t++(⟨#[99]⟩:ByteArray)) 2 = _ from e3] at e4
 have k1:catOk (⟨#[97,98]⟩:ByteArray) t = true:=zaP _ _ (by rw [z2]; omega)
 have k2:catOk ((⟨#[97,98]⟩:ByteArray)++t) (⟨#[99]⟩:ByteArray) = true:=zaP _ _ (by rw [ByteArray.size_append,z2,z1]; omega)
 have c0:decide ((0:Int) ≠ 0) = false:=by simp
 have wsz:IntKind.wrap .i64 ((2:Int) + (t.size:Int)) = ((2 + t.size:Nat):Int):=by rw [wrap_i64 _ (by omega) (by omega)]; omega
 obtain ⟨q,hq1,hq2⟩:=pick_eq p t.size hp e1
 have k3:inR (q:Int) (zau t).length = true:=by rw [zdZ,inRN]; exact zT hq2
 have k4:cutOk s.size none (some (if (300:Int) < (s.size:Int) then (300:Int) else (s.size:Int))) = true:=by unfold cutOk; simp; split <;> omega
 have k5:cutOk t.size none (some (q:Int)) = true:=by unfold cutOk; simp; omega
 have k6:cutOk l.length none (some (if (66:Int) < (l.length:Int) then (66:Int) else (l.length:Int))) = true:=by unfold cutOk; simp; split <;> omega
 have hsh:(cutS s none (some (if (300:Int) < (s.size:Int) then (300:Int) else (s.size:Int)))).size≤300:=by
  have:=(zlO s (if (300:Int) < (s.size:Int) then (300:Int) else (s.size:Int))).1
  have hm:(if (300:Int) < (s.size:Int) then (300:Int) else (s.size:Int))≤300:=by split <;> omega
  omega
 have hof:(ofBytes ((zau t).set (Int.toNat (q:Int)) b)).size≤210000:=by
  rw [ofBytes_size,List.length_set,zdZ]; exact e2
 have hct:=(zlO t (q:Int)).2
 have htk:(l.take (Int.toNat (if (66:Int) < (l.length:Int) then (66:Int) else (l.length:Int)))).length≤66:=by
  rw [List.length_take]
  split <;> omega
 unfold f503
 refine zaa zok ?_
 refine zaa h1 ?_
 refine zaa h2 ?_
 refine zaa h12 ?_
 refine zaa g1 ?_
 refine zaa g2 ?_
 show (bif catOk (⟨#[97,98]⟩:ByteArray) t then (bif catOk ((⟨#[97,98]⟩:ByteArray)++t) (⟨#[99]⟩:ByteArray) then _ else _) else _) = _
 rw [k1,k2,cond_true,cond_true]
 refine zaa e4 ?_
 show (bif decide ((0:Int) ≠ 0) then _ else bif decide ((0:Int) ≠ 0) then _ else bif !(decide (t = t)) then _ else bif decide ((0:Int) ≠ 0) then _ else bif decide (((2 + t.size:Nat):Int) ≠ IntKind.wrap .i64 ((2:Int) + (t.size:Int))) then _ else _) = _
 rw [c0,wsz,zT rfl,show decide (((2 + t.size:Nat):Int) ≠ ((2 + t.size:Nat):Int)) = false from by simp]
 simp only [cond_false,Bool.not_true]
 refine zaa (zi1 hd) ?_
 show (bif decide ((t.size:Int) = 0) then _ else _) = _
 rw [show decide ((t.size:Int) = 0) = false from zF (by omega),cond_false]
 refine zaa (a:=((q:Int),())) (by rw [zdZ]; exact hq1) ?_
 show (bif inR (q:Int) (zau t).length then _ else none) = _
 rw [k3,cond_true]
 show (bif cutOk s.size none (some (if (300:Int) < (s.size:Int) then (300:Int) else (s.size:Int))) then _ else none) = _
 rw [k4,cond_true]
 refine zaa hq1 ?_
 show (bif cutOk t.size none (some (q:Int)) then _ else none) = _
 rw [k5,cond_true]
 generalize hEhsh:cutS s none (some (if (300:Int) < (s.size:Int) then (300:Int) else (s.size:Int))) = sh
 rw [hEhsh] at hsh
 generalize hEhof:(zau t).set (Int.toNat (q:Int)) b = ot
 rw [hEhof] at hof
 generalize hEhct:cutS t none (some (q:Int)) = ct
 rw [hEhct] at hct
 refine zaa (f503_vs l at' sh [sh,ofBytes ot,ct] ot (by
  intro v hv
  simp only [List.mem_cons,List.not_mem_nil,or_false] at hv
  rcases hv with rfl | rfl | rfl <;> omega) (by simp) 3 0 4 rfl (by omega)) ?_
 show (bif cutOk l.length none (some (if (66:Int) < (l.length:Int) then (66:Int) else (l.length:Int))) then _ else none) = _
 rw [k6,cond_true]
 show Option.bind (f27 (l.take (Int.toNat (if (66:Int) < (l.length:Int) then (66:Int) else (l.length:Int))))) _ = _
 generalize hEhtk:l.take (Int.toNat (if (66:Int) < (l.length:Int) then (66:Int) else (l.length:Int))) = tk
 rw [hEhtk] at htk
 have u1:=f27_eq tk (by omega)
 have u2:=f514_eq tk (by omega)
 have hz:∀ (v:ByteArray),v.size≤1000000→∀ (c:Int),f503_l34 tk v c [sh,v,ofBytes ot] (([sh,v,ofBytes ot]:List ByteArray).length:Int) 4 (0:Int) = some (.inl ((tk,v,c,()),(),())):=fun v hv c =>
  f503_ls tk v c [sh,v,ofBytes ot] (by
   intro w hw
   simp only [List.mem_cons,List.not_mem_nil,or_false] at hw
   rcases hw with rfl | rfl | rfl <;> omega) (by simp) 3 0 4 rfl (by omega)
 cases ho:okLb tk with
 | false =>
  rw [ho] at u1 u2
  refine zaa u1 ?_
  refine zaa u2 ?_
  refine zaa (hz (⟨#[]⟩:ByteArray) (Nat.zero_le _) 160) ?_
  rfl
 | true =>
  have hk:=zb2.1 ho
  rw [ho] at u1 u2
  have hsz:=zaJ (labI tk) (zdx hk)
  have hln:(labI tk).length = tk.length + 1:=rfl
  have g28:=f28_eq (encs (labI tk)) (by omega)
  rw [zna hk] at g28
  have g26:=f26_eq tk tk (by omega)
  rw [zT rfl] at g26
  refine zaa u1 ?_
  refine zaa u2 ?_
  have c8:decide (encs (labI tk) = encs (labI tk)) = true:=zT rfl
  simp only [c0,c8,cond_false,Bool.not_true,if_true]
  refine zaa (hz (encs (labI tk)) (by omega) 0) ?_
  have c9:decide ((0:Int) = 0) = true:=zT rfl
  simp only [c9,cond_true,Sum.elim_inl]
  refine zaa g28 ?_
  simp only [c9,cond_true]
  refine zaa g26 ?_
  rfl
theorem f503_all (x:tysDen f503s.args) (h:tysOk f503s.args x):f503s.fn x = some (true,()):=by
 obtain ⟨x,y,l,s,a,b,p,u⟩:=x
 obtain ⟨h1,h2,_,_,_,_,h7,_⟩:=h
 exact f503_eq x y l s a b p (zjY h1) (zjY h2) (znL h7)
end Go.V.G
