/- Part of the proof. -/
import Derived.KernelRfl
import Derived.Test.YtfjpfjcdejjkeaaGreatDoorA4
set_option linter.all false
set_option linter.unusedVariables false
set_option linter.unusedSectionVars false
set_option linter.unusedSimpArgs false
namespace Go.V.G
open Go.Proofs
theorem bind_step {A B:Type} {o:Option A} {a:A} {f:A→Option B} {r:Option B} (h:o = some a) (h2:f a = r):o.bind f = r:=by subst h; exact h2
theorem f50_eq (g:Gr) (h:g.2.1.length≤1000000) (id:Int):f50 g id = some (atE g.2.1 id,()):=by
 obtain ⟨vs,es,ds,u⟩:=g
 simp only at h
 have hl:=fold_loop tE (fun (acc:List Ed) (e:Ed)=>if isAt id e = true then acc++[e] else acc) (fun k j acc=>f50_l3 id vs es ds k j acc) (fun r=>((),(),(r,()))) (fun j acc=>acc.length≤j) es (by
  intro k j acc hI
  show f50_l3 id vs es ds (k + 1) (j:Int) acc = _
  conv=>lhs; unfold f50_l3
  by_cases hj:j < es.length
  ·have e1:decide ((j:Int) < (es.length:Int)) = true:=by simp; omega
   have hget:at_ tE es (j:Int) = es[j]:=atN tE es j hj
   have hap:∀ e:Ed,decide (acc.length + ([e]:List Ed).length≤appLim) = true:=fun e=>by simp [appLim]; omega
   rw [dif_pos hj]
   simp only [e1,cond_true,inRN,dT hj,wS j (by omega),hget,hap]
   unfold isAt
   by_cases h1:es[j].2.1 = id
   ·simp [h1]
   ·by_cases h2:es[j].2.2.1 = id
    ·simp [h1,h2]
    ·simp [h1,h2]
  ·have e1:decide ((j:Int) < (es.length:Int)) = false:=by simp; omega
   rw [dif_neg hj]
   simp only [e1,cond_false]) (by
  intro j acc hj hI
  show (if isAt id es[j] = true then acc++[es[j]] else acc).length≤j + 1
  split
  ·simp; omega
  ·omega)
 have h2:=hl es.length (((es.length:Int) - (0:Int)).toNat + 1) 0 [] (by omega) (by omega) (by simp)
 rw [List.drop_zero,fold_filter] at h2
 unfold f50
 have h3:f50_l3 id vs es ds (((es.length:Int) - (0:Int)).toNat + 1) (0:Int) [] = _:=h2
 show ((f50_l3 id vs es ds (((es.length:Int) - (0:Int)).toNat + 1) (0:Int) []).bind fun o3=>some (o3.2.2.1,())) = _
 rw [h3,List.nil_append]
 rfl
def headN (es:List Ed) (ds:List Int):List Int:=[(ds.length:Int)]++ds++[(bitsE es:Int)]
def entsG (vs:List Vx) (es:List Ed) (ds:List Int):List En:=vs.map (rowV es)++[(63,encs (headN es ds),())]
theorem bits_small {vs es ds} (h:Ok vs es ds):bitsE es < 2 ^ 40:=by
 by_cases h0:es.length = 0
 ·have:es = []:=List.length_eq_zero_iff.1 h0
  subst this
  decide
 ·have h1:=bits_lt es h.ae h.eid (es.length - 1) (by omega)
  have h2:=bits_take es (es.length - 1) (by omega)
  rw [show es.length - 1 + 1 = es.length by omega,List.take_length] at h2
  have h3:=h.eid _ (List.getElem_mem (show es.length - 1 < es.length by omega))
  have h4:=pow40 (es[es.length - 1]'(by omega)).1.toNat (by omega)
  omega
theorem Ok.sE {vs es ds} (h:Ok vs es ds):∀ e∈es,smallE e:=fun e he=>okE_small (h.oke e he)
theorem Ok.sV {vs es ds} (h:Ok vs es ds):∀ v∈vs,smallI v.1∧smallI v.2.1:=fun v hv=>by
 have:=h.okv v hv
 unfold smallI maxI
 omega
theorem Ok.sH {vs es ds} (h:Ok vs es ds):∀ n∈headN es ds,smallI n:=by
 intro n hn
 have h1:=bits_small h
 have h2:=h.dl
 unfold headN at hn
 simp only [List.mem_append,List.mem_singleton] at hn
 rcases hn with (rfl | hn) | rfl
 ·unfold smallI maxI; omega
 ·have:=h.did n hn
  unfold smallI maxI; omega
 ·unfold smallI maxI; omega
theorem entries_eq (vs:List Vx) (es:List Ed) (ds:List Int) (h:Ok vs es ds) (hv:f46 (vs,es,ds,()) = some (true,())):f13 (vs,es,ds,()) = some (entsG vs es ds,0,()):=by
 have n1:=h.nv
 have n2:=h.ne
 have n3:=h.dl
 have s1:∀ n∈[(ds.length:Int)],smallI n:=fun n hn=>h.sH n (by unfold headN; simp at hn ⊢; exact .inl hn)
 have s2:∀ n∈ds,smallI n:=fun n hn=>h.sH n (by unfold headN; simp; exact .inr (.inl hn))
 have s3:∀ n∈[(bitsE es:Int)],smallI n:=fun n hn=>h.sH n (by unfold headN; simp at hn ⊢; exact .inr (.inr hn))
 have z1:=encs_size _ s1
 have z2:=encs_size _ s2
 have z3:=encs_size _ s3
 simp only [List.length_cons,List.length_nil] at z1 z3
 unfold f13
 simp only [hv,Option.bind_some,Bool.not_true,cond_false]
 refine bind_step (rows_loop vs es ds (by omega) (by omega) h.sE h.sV _ _ (by omega)) ?_
 refine bind_step (set_loop vs es ds (by omega) h.ae h.eid _ _ _ (show es.length < _ by simp only []; omega)) ?_
 refine bind_step (f110_eq _ s1 (by simp)) ?_
 refine bind_step (f110_eq ds s2 (by omega)) ?_
 show (bif catOk (encs [(ds.length:Int)]) (encs ds) then (f110 [(bitsE es:Int)]).bind (fun y20=>bif (catOk (encs [(ds.length:Int)]++encs ds) y20.1) then bif (decide ((vs.map (rowV es)).length + ([((63:Int),(((encs [(ds.length:Int)]++encs ds)++y20.1),()))]:List En).length≤appLim)) then some ((vs.map (rowV es)++([((63:Int),(((encs [(ds.length:Int)]++encs ds)++y20.1),()))]:List En)),(0:Int),()) else none else none) else none) = _
 rw [catOk_small _ _ (by omega),cond_true,f110_eq _ s3 (by simp),Option.bind_some]
 simp only []
 rw [catOk_small _ _ (by rw [ByteArray.size_append]; omega),cond_true,appOk _ _ (by simp; omega),cond_true]
 unfold entsG headN
 rw [encs_app,encs_app]
end Go.V.G
namespace Go.V.G
open Go.Proofs
theorem entries_p (vs:List Vx) (es:List Ed) (ds:List Int) (hv:valid (vs,es,ds,()) = true):f13 (vs,es,ds,()) = some (entsG vs es ds,0,()):=by
 have h:=ok_of vs es ds hv
 have n1:=h.nv
 have n2:=h.ne
 have n3:=h.dl
 refine entries_eq vs es ds h ?_
 rw [f46_eq (vs,es,ds,()) (show vs.length≤_ by omega) (show es.length≤_ by omega) (show ds.length≤_ by omega),hv]
theorem entries_all_p (vs:List Vx) (es:List Ed) (ds:List Int) (h1:vs.length≤1099511627776) (h2:es.length≤1099511627776) (h3:ds.length≤1099511627776) :
  f13 (vs,es,ds,()) = some (if valid (vs,es,ds,()) = true then (entsG vs es ds,0,()) else ([],60,())):=by
 by_cases hv:valid (vs,es,ds,()) = true
 ·rw [if_pos hv,entries_p vs es ds hv]
 ·have hf:valid (vs,es,ds,()) = false:=by simpa using hv
  rw [if_neg hv]
  unfold f13
  refine bind_step ((f46_eq (vs,es,ds,()) h1 h2 h3).trans (by rw [hf])) ?_
  rfl
end Go.V.G
namespace Go.V.G
open Go.Proofs
theorem encs_ne (n:Int) (l:List Int) (hn:smallI n):(encs (n :: l)).size ≠ 0:=by
 rw [← nbytes_len,nbytes_encs,List.flatMap_cons,List.length_append]
 have:(grpN (zig n)).length ≠ 0:=by
  unfold grpN
  split <;> simp
 omega
theorem pageN_small {vs es ds} (h:Ok vs es ds) {v:Vx} (hv:v∈vs):∀ n∈pageN v (atE es v.1),smallI n:=by
 have hlen:=atE_len es v.1
 have n2:=h.ne
 intro n hn'
 unfold pageN at hn'
 simp only [List.mem_cons] at hn'
 rcases hn' with rfl | rfl | rfl | h1
 ·exact (h.sV v hv).1
 ·exact (h.sV v hv).2
 ·unfold smallI maxI; omega
 ·obtain ⟨e,h1,h2⟩:=List.mem_flatMap.1 h1
  exact h.sE e (List.mem_filter.1 h1).1 n h2
theorem pageN_len {vs es ds} (h:Ok vs es ds) (v:Vx):(pageN v (atE es v.1)).length≤243:=by
 have hlen:=atE_len es v.1
 have n2:=h.ne
 have h6:=six_len (atE es v.1)
 unfold pageN
 simp only [List.length_cons]
 omega
theorem ents_valid {vs es ds} (h:Ok vs es ds):Valid (entsG vs es ds):=by
 have n3:=h.dl
 refine ⟨?_,?_,?_⟩
 ·intro e he
  unfold entsG at he
  rcases List.mem_append.1 he with he | he
  ·obtain ⟨v,hv,rfl⟩:=List.mem_map.1 he
   have:=h.okv v hv
   show 0≤v.1∧v.1 < 64
   omega
  ·rw [List.mem_singleton.1 he]
   exact ⟨(by decide:(0:Int)≤63),(by decide:(63:Int) < 64)⟩
 ·intro e he
  unfold entsG at he
  rcases List.mem_append.1 he with he | he
  ·obtain ⟨v,hv,rfl⟩:=List.mem_map.1 he
   have h1:=encs_size _ (pageN_small h hv)
   have h2:=pageN_len h v
   refine ⟨encs_ne _ _ (h.sV v hv).1,?_⟩
   show (encs (pageN v (atE es v.1))).size≤_
   omega
  ·rw [List.mem_singleton.1 he]
   have h1:=encs_size _ h.sH
   have h2:(headN es ds).length = ds.length + 2:=by unfold headN; simp
   refine ⟨encs_ne _ _ (h.sH _ (by unfold headN; simp)),?_⟩
   show (encs (headN es ds)).size≤_
   omega
 ·unfold entsG
  refine List.pairwise_append.2 ⟨?_,by simp,?_⟩
  ·exact List.pairwise_map.2 ((asc_pairwise kV).1 h.av)
  ·intro a ha b hb
   obtain ⟨v,hv,rfl⟩:=List.mem_map.1 ha
   rw [List.mem_singleton.1 hb]
   have:=h.okv v hv
   show v.1 < 63
   omega
end Go.V.G
namespace Go.V.G
open Go.Proofs
structure Cur (s:ByteArray) (a:Nat) (l:List Int):Prop where
 sz:s.size≤1099511627776
 le:a≤s.size
 tx:(nbytes s).drop a = nbytes (encs l)
end Go.V.G
namespace Go.V.G
open Go.Proofs
end Go.V.G
namespace Go.V.G
open Go.Proofs
end Go.V.G
namespace Go.V.G
open Go.Proofs
end Go.V.G
namespace Go.V.G
open Go.Proofs
end Go.V.G
namespace Go.V.G
open Go.Proofs
def farV (d:Int):Vx:=(d,0,())
theorem far_rows (es:List Ed):∀ (l:List Int) (pre:List Int) (acc:List Vx) (k:Nat),l.length < k→acc.length + l.length≤1000→pre.length + l.length≤1000 →
  f67_l3 (pre++l) ((pre++l).length:Int) es k (pre.length:Int) acc = some ((),(),((),(es,()),acc++l.map farV,()))
 | [],pre,acc,k,hk,h1,h2=>by
  obtain ⟨k,rfl⟩:∃ q,k = q + 1:=⟨k - 1,by omega⟩
  have e1:decide ((pre.length:Int) < ((pre++[]).length:Int)) = false:=by simp
  unfold f67_l3
  rw [e1,List.map_nil,List.append_nil,List.append_nil]
  rfl
 | d :: l,pre,acc,k,hk,h1,h2=>by
  simp only [List.length_cons] at hk h1 h2
  obtain ⟨k,rfl⟩:∃ q,k = q + 1:=⟨k - 1,by omega⟩
  have hj:pre.length < (pre++d :: l).length:=by simp
  have e1:decide ((pre.length:Int) < ((pre++d :: l).length:Int)) = true:=by simp; omega
  have hget:at_ tI (pre++d :: l) (pre.length:Int) = d:=(atN tI (pre++d :: l) pre.length hj).trans (by simp)
  have ih:=far_rows es l (pre++[d]) (acc++[farV d]) k (by omega) (by simp; omega) (by simp; omega)
  rw [show pre++[d]++l = pre++d :: l by simp,List.append_assoc,show ((pre++[d]).length) = pre.length + 1 by simp] at ih
  conv=>lhs; unfold f67_l3
  rw [e1,inRN,dT hj,hget,wS pre.length (by omega),appOk _ _ (by simp; omega)]
  exact ih
end Go.V.G
namespace Go.V.G
open Go.Proofs
def farE (id:Int) (e:Ed):Int:=if id = e.2.1 then e.2.2.1 else if id = e.2.2.1 then e.2.1 else -1
theorem f64_eq (e:Ed) (id:Int):f64 e id = some (farE id e,()):=by
 unfold f64 farE
 by_cases h1:id = e.2.1
 ·rw [dT h1,if_pos h1]; rfl
 ·rw [dF h1,if_neg h1]
  by_cases h2:id = e.2.2.1
  ·rw [dT h2,if_pos h2]; rfl
  ·rw [dF h2,if_neg h2]; rfl
theorem fold_far (id:Int):∀ (l:List Ed) (acc:List Int),l.foldl (fun acc e=>if isAt id e = true then acc++[farE id e] else acc) acc = acc++(atE l id).map (farE id)
 | [],acc=>by simp [atE]
 | e :: l,acc=>by
  have hf:atE (e :: l) id = if isAt id e = true then e :: atE l id else atE l id:=by
   unfold atE isAt
   rw [List.filter_cons]
  rw [List.foldl_cons,fold_far id l,hf]
  split
  ·rw [List.map_cons,List.append_assoc]; rfl
  ·rfl
theorem ends_loop (es:List Ed) (id:Int) (h:es.length≤1000) (k:Nat) (hk:es.length < k):pf31_l2 es (es.length:Int) id k 0 [] = some ((),(),((id,()),(atE es id).map (farE id),())):=by
 have hl:=fold_loop tE (fun (acc:List Int) (e:Ed)=>if isAt id e = true then acc++[farE id e] else acc) (fun k j acc=>pf31_l2 es (es.length:Int) id k j acc) (fun r=>((),(),((id,()),r,()))) (fun j acc=>acc.length≤j) es (by
  intro k j acc hI
  show pf31_l2 es (es.length:Int) id (k + 1) (j:Int) acc = _
  conv=>lhs; unfold pf31_l2
  by_cases hj:j < es.length
  ·have e1:decide ((j:Int) < (es.length:Int)) = true:=by simp; omega
   have hget:at_ tE es (j:Int) = es[j]:=atN tE es j hj
   have hap:∀ n:Int,decide (acc.length + ([n]:List Int).length≤appLim) = true:=fun e=>appOk _ _ (by simp; omega)
   rw [dif_pos hj]
   simp only [e1,cond_true,inRN,dT hj,wS j (by omega),hget,f64_eq,Option.bind_some,hap]
   unfold isAt
   by_cases h1:es[j].2.1 = id
   ·simp [h1]
   ·by_cases h2:es[j].2.2.1 = id
    ·simp [h1,h2]
    ·simp [h1,h2]
  ·have e1:decide ((j:Int) < (es.length:Int)) = false:=by simp; omega
   rw [dif_neg hj]
   simp only [e1,cond_false]) (by
  intro j acc hj hI
  show (if isAt id es[j] = true then acc++[farE id es[j]] else acc).length≤j + 1
  split
  ·simp; omega
  ·omega)
 have h2:=hl es.length k 0 [] (by omega) hk (by simp)
 rw [List.drop_zero,fold_far] at h2
 exact h2
end Go.V.G
namespace Go.V.G
open Go.Proofs
def comp:List Int→List Int
 | []=>[]
 | a :: l=>match l with
  | []=>[a]
  | b :: _=>if a = b then comp l else a :: comp l
theorem comp_snoc:∀ (l:List Int) (a b:Int),comp (l++[a,b]) = if b = a then comp (l++[a]) else comp (l++[a])++[b]
 | [],a,b=>by
  show (if a = b then [b] else a :: [b]) = if b = a then [a] else [a]++[b]
  by_cases h:a = b
  ·subst h; simp
  ·rw [if_neg h,if_neg (fun h1=>h h1.symm)]; rfl
 | [c],a,b=>by
  show (if c = a then comp [a,b] else c :: comp [a,b]) = if b = a then (if c = a then [a] else c :: [a]) else (if c = a then [a] else c :: [a])++[b]
  show (if c = a then (if a = b then [b] else a :: [b]) else c :: (if a = b then [b] else a :: [b])) = _
  by_cases h:a = b
  ·subst h; simp
  ·have h':¬ b = a:=fun h1=>h h1.symm
   rw [if_neg h,if_neg h']
   split <;> rfl
 | c :: d :: l,a,b=>by
  have ih:=comp_snoc (d :: l) a b
  show (if c = d then comp ((d :: l)++[a,b]) else c :: comp ((d :: l)++[a,b])) = if b = a then (if c = d then comp ((d :: l)++[a]) else c :: comp ((d :: l)++[a])) else (if c = d then comp ((d :: l)++[a]) else c :: comp ((d :: l)++[a]))++[b]
  rw [ih]
  by_cases h:b = a
  ·simp only [if_pos h]
  ·simp only [if_neg h]
   split <;> rfl
end Go.V.G
namespace Go.V.G
open Go.Proofs
theorem take_two (l:List Int) (i:Nat) (h:i + 1 < l.length):l.take (i + 2) = l.take i++[l[i]'(by omega),l[i + 1]]:=by
 rw [List.take_succ_eq_append_getElem h,List.take_succ_eq_append_getElem (show i < l.length by omega),List.append_assoc]
 rfl
theorem comp_take (l:List Int) (i:Nat) (h:i + 1 < l.length):comp (l.take (i + 2)) = if l[i + 1] = l[i]'(by omega) then comp (l.take (i + 1)) else comp (l.take (i + 1))++[l[i + 1]]:=by
 rw [take_two l i h,comp_snoc,← List.take_succ_eq_append_getElem (show i < l.length by omega)]
theorem get_drop {r l:List Int} {a i:Nat} (h:r.drop a = l.drop a) (hl:r.length = l.length) (hi:a≤i) (h1:i < l.length):r[i]'(by omega) = l[i]:=by
 have h2:(r.drop a)[i - a]'(by rw [List.length_drop]; omega) = (l.drop a)[i - a]'(by rw [List.length_drop]; omega):=by simp only [h]
 rw [List.getElem_drop,List.getElem_drop] at h2
 simpa [show a + (i - a) = i by omega] using h2
theorem comp_loop (orig:List Int) (o n:Nat) (id:Int) (ho:o + n = orig.length) (hl:orig.length≤1000):∀ (m k t w:Nat) (r:List Int),n - t≤m→m < k→1≤t→t≤n→r.length = orig.length→r.drop (o + t - 1) = orig.drop (o + t - 1)→r.take w = comp (orig.take (o + t))→w≤o + t - 1 →
  ∃ (w':Nat) (r':List Int),pf73_l9x (o,n) id k (w:Int) (t:Int) r = some (((w':Int),()),((),()),(r',(id,()),()))∧r'.length = orig.length∧w'≤orig.length∧r'.take w' = comp orig:=by
 intro m
 induction m with
 | zero =>
  intro k t w r h1 h2 h3 h4 h5 h6 h7 h8
  obtain ⟨k,rfl⟩:∃ q,k = q + 1:=⟨k - 1,by omega⟩
  have hlen:((r.drop o).take n).length = n:=by rw [List.length_take,List.length_drop]; omega
  refine ⟨w,r,?_,h5,by omega,?_⟩
  ·unfold pf73_l9x
   simp only [hlen]
   rw [dF (by omega)]
   rfl
  ·rw [h7,show o + t = orig.length by omega,List.take_length]
 | succ m ih =>
  intro k t w r h1 h2 h3 h4 h5 h6 h7 h8
  obtain ⟨k,rfl⟩:∃ q,k = q + 1:=⟨k - 1,by omega⟩
  have hlen:((r.drop o).take n).length = n:=by rw [List.length_take,List.length_drop]; omega
  by_cases ht:t < n
  ·obtain ⟨t,rfl⟩:∃ q,t = q + 1:=⟨t - 1,by omega⟩
   have hlt:o + t + 1 < orig.length:=by omega
   have g1:=get_drop h6 h5 (i:=o + t) (by omega) (by omega)
   have g2:=get_drop h6 h5 (i:=o + t + 1) (by omega) hlt
   have w1:IntKind.wrap .i64 (((t + 1:Nat):Int) - (1:Int)) = (t:Int):=by rw [wrap_i64 _ (by omega) (by omega)]; omega
   have a1:at_ tI r ((o:Int) + (t:Int)) = orig[o + t]'(by omega):=by
    rw [show (o:Int) + (t:Int) = ((o + t:Nat):Int) by omega]
    exact (atN tI r (o + t) (by omega)).trans g1
   have a2:at_ tI r ((o:Int) + ((t + 1:Nat):Int)) = orig[o + t + 1]:=by
    rw [show (o:Int) + ((t + 1:Nat):Int) = ((o + t + 1:Nat):Int) by omega]
    exact (atN tI r (o + t + 1) (by omega)).trans g2
   have ct:=comp_take orig (o + t) hlt
   have d1:r.drop (o + (t + 1 + 1) - 1) = orig.drop (o + (t + 1 + 1) - 1):=by
    have:=congrArg (List.drop 1) h6
    rw [List.drop_drop,List.drop_drop] at this
    rw [show o + (t + 1 + 1) - 1 = o + (t + 1) - 1 + 1 by omega]
    exact this
   conv=>enter [1,w',1,r',1,1]; unfold pf73_l9x
   simp only [hlen,dT (show ((t + 1:Nat):Int) < (n:Int) by omega),cond_true,w1,a1,a2,inRN,dT (show t + 1 < n by omega),dT (show t < n by omega),wS (t + 1) (by omega)]
   by_cases he:orig[o + t + 1] = orig[o + t]'(by omega)
   ·rw [if_pos he] at ct
    obtain ⟨w',r',q1,q2⟩:=ih k (t + 1 + 1) w r (by omega) (by omega) (by omega) (by omega) h5 d1 (by rw [h7]; exact ct.symm) (by omega)
    refine ⟨w',r',?_,q2⟩
    simp only [he,ne_eq,not_true_eq_false,decide_false,cond_false]
    exact q1
   ·rw [if_neg he] at ct
    have hw:w < r.length:=by omega
    obtain ⟨w',r',q1,q2⟩:=ih k (t + 1 + 1) (w + 1) (r.set w (orig[o + t + 1])) (by omega) (by omega) (by omega) (by omega) (by rw [List.length_set]; exact h5) (by rw [List.drop_set_of_lt (by omega)]; exact d1) (by
     rw [List.take_succ_eq_append_getElem (by rw [List.length_set]; exact hw),List.take_set_of_le (by omega),List.getElem_set_self,h7]
     exact ct.symm) (by omega)
    refine ⟨w',r',?_,q2⟩
    simp only [he,ne_eq,not_false_eq_true,decide_true,cond_true,dT hw,wS w (by omega),Int.toNat_natCast]
    exact q1
  ·refine ⟨w,r,?_,h5,by omega,?_⟩
   ·unfold pf73_l9x
    simp only [hlen]
    rw [dF (by omega)]
    rfl
   ·rw [h7,show o + t = orig.length by omega,List.take_length]
end Go.V.G
namespace Go.V.G
open Go.Proofs
theorem setRange_len {α:Type} (l:List α) (lo:Nat) (m:List α) (h:lo + m.length≤l.length):(setRange l lo m).length = l.length:=by
 unfold setRange
 simp only [List.length_append,List.length_take,List.length_drop]
 omega
theorem setRange_take {α:Type} (l:List α) (lo:Nat) (m:List α) (h:lo≤l.length):(setRange l lo m).take lo = l.take lo:=by
 unfold setRange
 rw [List.append_assoc,List.take_append_of_le_length (by rw [List.length_take]; omega),List.take_take,Nat.min_self]
theorem cutLo (n:Nat) (a:Nat) (h:a≤n):cutOk n (some (a:Int)) none = true:=by
 unfold cutOk
 simp only [Bool.and_eq_true,decide_eq_true_eq]
 omega
theorem cutHi' (n:Nat) (a:Nat) (h:a≤n):cutOk n none (some (a:Int)) = true:=by
 unfold cutOk
 simp only [Bool.and_eq_true,decide_eq_true_eq]
 omega
theorem cutLenLo (n a:Nat):cutLen n (some (a:Int)) none = n - a:=by
 unfold cutLen cutHi cutFrom
 simp
theorem cutLenHi (n a:Nat):cutLen n none (some (a:Int)) = a:=by
 unfold cutLen cutHi cutFrom
 simp
theorem comp_first (id:Int) (r:List Int) (hl:r.length≤1000):∀ (m k j:Nat),r.length - j≤m→m < k→1≤j→j≤r.length→comp (r.take j) = r.take j →
  (pf73_l4x r id k (j:Int) = some (.inl ((),((),()),(r,(id,()),())))∧comp r = r) ∨
  ∃ (w:Nat) (r':List Int),pf73_l4x r id k (j:Int) = some (.inr ((w,()),((),()),(r',(id,()),())))∧r'.length = r.length∧w≤r.length∧r'.take w = comp r:=by
 intro m
 induction m with
 | zero =>
  intro k j h1 h2 h3 h4 h5
  obtain ⟨k,rfl⟩:∃ q,k = q + 1:=⟨k - 1,by omega⟩
  left
  have hj:j = r.length:=by omega
  subst hj
  rw [List.take_length] at h5
  refine ⟨?_,h5⟩
  unfold pf73_l4x
  rw [dF (by omega)]
  rfl
 | succ m ih =>
  intro k j h1 h2 h3 h4 h5
  obtain ⟨k,rfl⟩:∃ q,k = q + 1:=⟨k - 1,by omega⟩
  by_cases hj:j < r.length
  ·obtain ⟨i,rfl⟩:∃ q,j = q + 1:=⟨j - 1,by omega⟩
   have w1:IntKind.wrap .i64 (((i + 1:Nat):Int) - (1:Int)) = (i:Int):=by rw [wrap_i64 _ (by omega) (by omega)]; omega
   have a1:at_ tI r (i:Int) = r[i]'(by omega):=atN tI r i (by omega)
   have a2:at_ tI r ((i + 1:Nat):Int) = r[i + 1]:=atN tI r (i + 1) hj
   have ct:=comp_take r i hj
   unfold pf73_l4x
   simp only [dT (show ((i + 1:Nat):Int) < (r.length:Int) by omega),cond_true,w1,a1,a2,inRN,dT hj,dT (show i < r.length by omega),wS (i + 1) (by omega)]
   by_cases he:r[i + 1] = r[i]'(by omega)
   ·right
    rw [if_pos he] at ct
    obtain ⟨w,r',q1,q2,q3,q4⟩:=comp_loop r (i + 1) (r.length - (i + 1)) id (by omega) hl (r.length - (i + 1) - 1) (r.length - (i + 1) + 1) 1 (i + 1) r (by omega) (by omega) (by omega) (by omega) rfl rfl (by rw [show i + 1 + 1 = i + 2 by omega,ct,h5]) (by omega)
    refine ⟨w,setRange r' w (List.replicate (r'.length - w) (0:Int)),?_,?_,q3,?_⟩
    ·simp only [he,decide_true,cond_true,cutLo r.length (i + 1) (by omega),cutLenLo,Int.toNat_natCast]
     have q1':pf73_l9x (i + 1,r.length - (i + 1)) id (r.length - (i + 1) + 1) ((i + 1:Nat):Int) 1 r = _:=q1
     refine bind_step q1' ?_
     show (bif cutOk r'.length (some (w:Int)) none then bif (cutOk (setRange r' (Int.toNat (w:Int)) (List.replicate (cutLen r'.length (some (w:Int)) none) (0:Int))).length none (some (w:Int))) then (some (.inr (((cutLen (setRange r' (Int.toNat (w:Int)) (List.replicate (cutLen r'.length (some (w:Int)) none) (0:Int))).length none (some (w:Int))),()),((),()),((setRange r' (Int.toNat (w:Int)) (List.replicate (cutLen r'.length (some (w:Int)) none) (0:Int))),(id,()),()))):Option (outDen pf73_l4x_outs)) else none else none) = _
     simp only [cutLo r'.length w (by omega),cond_true,Int.toNat_natCast,cutLenLo]
     rw [cutHi' _ w (by rw [setRange_len _ _ _ (by rw [List.length_replicate]; omega)]; omega),cutLenHi]
     rfl
    ·rw [setRange_len _ _ _ (by rw [List.length_replicate]; omega),q2]
    ·rw [setRange_take _ _ _ (by omega),q4]
   ·rw [if_neg he] at ct
    have ct':comp (r.take (i + 1 + 1)) = r.take (i + 1 + 1):=by
     rw [show i + 1 + 1 = i + 2 by omega,ct,h5,List.take_succ_eq_append_getElem (show i + 1 < r.length from hj)]
    simp only [he,decide_false,cond_false]
    exact ih k (i + 1 + 1) (by omega) (by omega) (by omega) (by omega) ct'
  ·left
   have hj:j = r.length:=by omega
   subst hj
   rw [List.take_length] at h5
   refine ⟨?_,h5⟩
   unfold pf73_l4x
   rw [dF (by omega)]
   rfl
end Go.V.G
namespace Go.V.G
open Go.Proofs
theorem notIn_filter (id:Int):∀ (l:List Int),id ∉ l→l.filter (fun x=>!decide (x = id)) = l:=by
 intro l h
 rw [List.filter_eq_self]
 intro a ha
 have:a ≠ id:=fun e=>h (e ▸ ha)
 simp [this]
theorem idx_of (n k1:Nat) (r:List Int) (id:Int) (hn:n≤r.length) (hl:r.length≤1000):∀ (m k j:Nat),n - j≤m→m < k→j≤n→id ∉ r.take j →
  (pf125_l2x n (n:Int) n k1 r id k (j:Int) = some (.inl ((),((n,()),(k1,()),()),(r,(id,()),())))∧id ∉ r.take n) ∨
  ∃ (i:Nat) (h:i < r.length),pf125_l2x n (n:Int) n k1 r id k (j:Int) = some (.inr (((i:Int),()),((n,()),(k1,()),()),(r,(id,()),())))∧i < n∧id ∉ r.take i∧r[i] = id:=by
 intro m
 induction m with
 | zero =>
  intro k j h1 h2 h3 h4
  obtain ⟨k,rfl⟩:∃ q,k = q + 1:=⟨k - 1,by omega⟩
  left
  have hj:j = n:=by omega
  subst hj
  refine ⟨?_,h4⟩
  unfold pf125_l2x
  rw [dF (by omega)]
  rfl
 | succ m ih =>
  intro k j h1 h2 h3 h4
  obtain ⟨k,rfl⟩:∃ q,k = q + 1:=⟨k - 1,by omega⟩
  by_cases hj:j < n
  ·have hr:j < r.length:=by omega
   have a1:at_ tI r (0 + (j:Int)) = r[j]:=by rw [Int.zero_add]; exact atN tI r j hr
   unfold pf125_l2x
   simp only [dT (show (j:Int) < (n:Int) by omega),cond_true,inRN,dT hj,a1,wS j (by omega)]
   by_cases he:r[j] = id
   ·right
    refine ⟨j,hr,?_,hj,h4,he⟩
    rw [dT he,cond_true]
   ·rw [dF he,cond_false]
    refine ih k (j + 1) (by omega) (by omega) (by omega) ?_
    rw [List.take_succ_eq_append_getElem hr,List.mem_append]
    rintro (h | h)
    ·exact h4 h
    ·exact he (List.mem_singleton.1 h).symm
  ·left
   have hj:j = n:=by omega
   subst hj
   refine ⟨?_,h4⟩
   unfold pf125_l2x
   rw [dF (by omega)]
   rfl
theorem del_loop (n k1:Nat) (orig:List Int) (id:Int) (hn:n≤orig.length) (hl:orig.length≤1000):∀ (m k t w:Nat) (r:List Int),n - t≤m→m < k→t≤n→r.length = orig.length→r.drop t = orig.drop t→r.take w = (orig.take t).filter (fun x=>!decide (x = id))→w≤t →
  ∃ (w':Nat) (r':List Int),pf72_l5x n k1 id k (w:Int) (t:Int) r = some ((n,(w':Int),()),((k1,()),()),(r',()))∧r'.length = orig.length∧w'≤n∧r'.take w' = (orig.take n).filter (fun x=>!decide (x = id)):=by
 intro m
 induction m with
 | zero =>
  intro k t w r h1 h2 h3 h4 h5 h6 h7
  obtain ⟨k,rfl⟩:∃ q,k = q + 1:=⟨k - 1,by omega⟩
  have ht:t = n:=by omega
  subst ht
  have hlen:((r.drop 0).take t).length = t:=by rw [List.length_take,List.length_drop]; omega
  refine ⟨w,r,?_,h4,h7,h6⟩
  unfold pf72_l5x
  simp only [hlen]
  rw [dF (by omega)]
  rfl
 | succ m ih =>
  intro k t w r h1 h2 h3 h4 h5 h6 h7
  obtain ⟨k,rfl⟩:∃ q,k = q + 1:=⟨k - 1,by omega⟩
  have hlen:((r.drop 0).take n).length = n:=by rw [List.length_take,List.length_drop]; omega
  by_cases ht:t < n
  ·have hto:t < orig.length:=by omega
   have g:=get_drop h5 h4 (Nat.le_refl t) hto
   have a1:at_ tI r (t:Int) = orig[t]:=(atN tI r t (by omega)).trans g
   have d1:r.drop (t + 1) = orig.drop (t + 1):=by
    have:=congrArg (List.drop 1) h5
    rwa [List.drop_drop,List.drop_drop] at this
   have ft:(orig.take (t + 1)).filter (fun x=>!decide (x = id)) = (orig.take t).filter (fun x=>!decide (x = id))++(if orig[t] = id then [] else [orig[t]]):=by
    rw [List.take_succ_eq_append_getElem hto,List.filter_append]
    congr 1
    by_cases he:orig[t] = id <;> simp [he]
   conv=>enter [1,w',1,r',1,1]; unfold pf72_l5x
   simp only [hlen,dT (show (t:Int) < (n:Int) by omega),cond_true,inRN,dT ht,a1,wS t (by omega),wS w (by omega),dT (show w < n by omega),Int.zero_add,Int.toNat_natCast]
   by_cases he:orig[t] = id
   ·rw [if_pos he,List.append_nil] at ft
    simp only [he,decide_true,Bool.not_true,cond_false]
    exact ih k (t + 1) w r (by omega) (by omega) (by omega) h4 d1 (by rw [h6,ft]) (by omega)
   ·rw [if_neg he] at ft
    simp only [dF he,Bool.not_false,cond_true]
    refine ih k (t + 1) (w + 1) (r.set w orig[t]) (by omega) (by omega) (by omega) (by rw [List.length_set]; exact h4) (by rw [List.drop_set_of_lt (by omega)]; exact d1) ?_ (by omega)
    rw [List.take_succ_eq_append_getElem (by rw [List.length_set]; omega),List.take_set_of_le (by omega),List.getElem_set_self,h6,ft]
  ·have ht:t = n:=by omega
   subst ht
   refine ⟨w,r,?_,h4,h7,h6⟩
   unfold pf72_l5x
   simp only [hlen]
   rw [dF (by omega)]
   rfl
def delT (n k1:Nat) (r:List Int) (id:Int):Option (List Int × Unit) :=
 (pf125_l2x n (n:Int) n k1 r id (((n:Int) - (0:Int)).toNat + 1) (0:Int)).bind fun o10 =>
  Sum.elim (fun o11 =>
   let u13:Nat:=o11.2.1.1.1
   let u15:(List Int):=o11.2.2.1
   some (((u15.drop 0).take u13),())) (fun o12 =>
   let u17:Int:=o12.1.1
   let u18:Nat:=o12.2.1.1.1
   let u19:Nat:=o12.2.1.2.1.1
   let u20:(List Int):=o12.2.2.1
   let u21:Int:=o12.2.2.2.1.1
   bif (decide (u17 = (-1:Int))) then
    some (((u20.drop 0).take u18),())
   else
    (pf72_l5x u18 u19 u21 (((((u20.drop 0).take u18).length:Int) - (IntKind.wrap .i64 (u17 + (1:Int)))).toNat + 1) u17 (IntKind.wrap .i64 (u17 + (1:Int))) u20).bind fun o24 =>
    let u25:Nat:=o24.1.1
    let u26:Int:=o24.1.2.1
    let u28:(List Int):=o24.2.2.1
    bif (cutOk u25 (some u26) none) then bif (cutOk u25 none (some u26)) then some ((((setRange u28 (0 + (Int.toNat u26)) (List.replicate (cutLen u25 (some u26) none) (0:Int))).drop 0).take (cutLen u25 none (some u26))),()) else none else none) o10
theorem delT_eq (n k1:Nat) (r:List Int) (id:Int) (hn:n≤r.length) (hl:r.length≤1000):delT n k1 r id = some ((r.take n).filter (fun x=>!decide (x = id)),()):=by
 unfold delT
 rcases idx_of n k1 r id hn hl n (((n:Int) - (0:Int)).toNat + 1) 0 (by omega) (by omega) (by omega) (by simp) with ⟨h1,h2⟩ | ⟨i,hi,h1,h2,h3,h4⟩
 ·have h1':pf125_l2x n (n:Int) n k1 r id (((n:Int) - (0:Int)).toNat + 1) (0:Int) = _:=h1
  refine bind_step h1' ?_
  show some ((r.drop 0).take n,()) = _
  rw [List.drop_zero,notIn_filter id _ h2]
 ·have h1':pf125_l2x n (n:Int) n k1 r id (((n:Int) - (0:Int)).toNat + 1) (0:Int) = _:=h1
  refine bind_step h1' ?_
  have hlen:((r.drop 0).take n).length = n:=by rw [List.length_take,List.length_drop]; omega
  have f0:(r.take (i + 1)).filter (fun x=>!decide (x = id)) = r.take i:=by
   rw [List.take_succ_eq_append_getElem hi,List.filter_append,notIn_filter id _ h3,h4]
   simp
  obtain ⟨w',r',q1,q2,q3,q4⟩:=del_loop n k1 r id hn hl (n - (i + 1)) (((n:Int) - ((i + 1:Nat):Int)).toNat + 1) (i + 1) i r (by omega) (by omega) (by omega) rfl rfl (by rw [f0]) (by omega)
  show (bif (decide ((i:Int) = (-1:Int))) then some (((r.drop 0).take n),()) else
    (pf72_l5x n k1 id (((((r.drop 0).take n).length:Int) - (IntKind.wrap .i64 ((i:Int) + (1:Int)))).toNat + 1) (i:Int) (IntKind.wrap .i64 ((i:Int) + (1:Int))) r).bind fun o24 =>
    bif (cutOk o24.1.1 (some o24.1.2.1) none) then bif (cutOk o24.1.1 none (some o24.1.2.1)) then some ((((setRange o24.2.2.1 (0 + (Int.toNat o24.1.2.1)) (List.replicate (cutLen o24.1.1 (some o24.1.2.1) none) (0:Int))).drop 0).take (cutLen o24.1.1 none (some o24.1.2.1))),()) else none else none) = _
  rw [dF (by omega),cond_false,hlen,wS i (by omega)]
  refine bind_step q1 ?_
  show (bif (cutOk n (some (w':Int)) none) then bif (cutOk n none (some (w':Int))) then some ((((setRange r' (0 + (Int.toNat (w':Int))) (List.replicate (cutLen n (some (w':Int)) none) (0:Int))).drop 0).take (cutLen n none (some (w':Int)))),()) else none else none) = _
  simp only [cutLo n w' q3,cutHi' n w' q3,cond_true,cutLenLo,cutLenHi,Int.toNat_natCast,Nat.zero_add,List.drop_zero]
  rw [setRange_take _ _ _ (by omega),q4]
end Go.V.G
namespace Go.V.G
open Go.Proofs
theorem comp_mem (x:Int):∀ (l:List Int),x∈comp l ↔ x∈l
 | []=>Iff.rfl
 | [a]=>Iff.rfl
 | a :: b :: l=>by
  have ih:=comp_mem x (b :: l)
  show x∈(if a = b then comp (b :: l) else a :: comp (b :: l)) ↔ _
  by_cases h:a = b
  ·rw [if_pos h,ih]
   subst h
   simp
  ·rw [if_neg h,List.mem_cons,ih,← List.mem_cons]
theorem comp_asc:∀ (l:List Int),l.Pairwise (fun a b=>a≤b)→(comp l).Pairwise (fun a b=>a < b)
 | [],_=>List.Pairwise.nil
 | [a],_=>List.pairwise_singleton _ _
 | a :: b :: l,h=>by
  have h2:=List.pairwise_cons.1 h
  have ih:=comp_asc (b :: l) h2.2
  show (if a = b then comp (b :: l) else a :: comp (b :: l)).Pairwise _
  by_cases e:a = b
  ·rw [if_pos e]; exact ih
  ·rw [if_neg e]
   refine List.pairwise_cons.2 ⟨fun x hx=>?_,ih⟩
   rw [comp_mem] at hx
   have h3:=h2.1 b (List.mem_cons_self ..)
   rcases List.mem_cons.1 hx with rfl | hx
   ·omega
   ·have:=(List.pairwise_cons.1 h2.2).1 x hx
    omega
theorem asc_ext {α:Type} (f:α→Int):∀ (a b:List α),a.Pairwise (fun x y=>f x < f y)→b.Pairwise (fun x y=>f x < f y)→(∀ x,x∈a ↔ x∈b)→a = b
 | [],[],_,_,_=>rfl
 | [],y :: b,_,_,h=>absurd ((h y).2 (List.mem_cons_self ..)) (by simp)
 | x :: a,[],_,_,h=>absurd ((h x).1 (List.mem_cons_self ..)) (by simp)
 | x :: a,y :: b,ha,hb,h=>by
  obtain ⟨a1,a2⟩:=List.pairwise_cons.1 ha
  obtain ⟨b1,b2⟩:=List.pairwise_cons.1 hb
  have exy:x = y:=by
   rcases List.mem_cons.1 ((h x).1 (List.mem_cons_self ..)) with e | hx
   ·exact e
   ·rcases List.mem_cons.1 ((h y).2 (List.mem_cons_self ..)) with e | hy
    ·exact e.symm
    ·have:=b1 x hx
     have:=a1 y hy
     omega
  subst exy
  congr 1
  refine asc_ext f a b a2 b2 fun z=>⟨fun hz=>?_,fun hz=>?_⟩
  ·rcases List.mem_cons.1 ((h z).1 (List.mem_cons_of_mem _ hz)) with rfl | h1
   ·exact absurd (a1 z hz) (by omega)
   ·exact h1
  ·rcases List.mem_cons.1 ((h z).2 (List.mem_cons_of_mem _ hz)) with rfl | h1
   ·exact absurd (b1 z hz) (by omega)
   ·exact h1
theorem sort_asc (l:List Int):(l.mergeSort fun x y=>decide (x≤y)).Pairwise (fun a b=>a≤b):=by
 have:=List.pairwise_mergeSort (le:=fun (x y:Int)=>decide (x≤y)) (by intro a b c; simp; omega) (by intro a b; simp; omega) l
 exact this.imp (by simp)
def nb (id:Int) (es:List Ed):List Int:=(comp (((atE es id).map (farE id)).mergeSort fun x y=>decide (x≤y))).filter (fun x=>!decide (x = id))
theorem nb_asc (id:Int) (es:List Ed):(nb id es).Pairwise (fun a b=>a < b):=(comp_asc _ (sort_asc _)).filter _
theorem nb_mem (id:Int) (es:List Ed) (x:Int):x∈nb id es ↔ x ≠ id∧∃ e∈es,isAt id e = true∧farE id e = x:=by
 unfold nb
 rw [List.mem_filter,comp_mem,List.mem_mergeSort,List.mem_map]
 constructor
 ·rintro ⟨⟨e,h1,h2⟩,h3⟩
  obtain ⟨h4,h5⟩:=List.mem_filter.1 h1
  exact ⟨by simpa using h3,e,h4,h5,h2⟩
 ·rintro ⟨h3,e,h4,h5,h2⟩
  exact ⟨⟨e,List.mem_filter.2 ⟨h4,h5⟩,h2⟩,by simpa using h3⟩
theorem comp_len:∀ (l:List Int),(comp l).length≤l.length
 | []=>Nat.le_refl _
 | [a]=>Nat.le_refl _
 | a :: b :: l=>by
  have ih:=comp_len (b :: l)
  show (if a = b then comp (b :: l) else a :: comp (b :: l)).length≤_
  split
  ·simp only [List.length_cons] at ih ⊢; omega
  ·simp only [List.length_cons] at ih ⊢; omega
theorem nb_len (id:Int) (es:List Ed):(nb id es).length≤es.length:=by
 unfold nb
 refine Nat.le_trans (List.length_filter_le _ _) (Nat.le_trans (comp_len _) ?_)
 rw [List.length_mergeSort,List.length_map]
 exact atE_len es id
theorem comp_short (l:List Int) (h:l.length < 2):comp l = l:=by
 match l,h with
 | [],_=>rfl
 | [a],_=>rfl
theorem pf31_eq (id:Int) (es:List Ed) (h:es.length≤1000):pf31 id es = some (nb id es,()):=by
 have hlen:(((atE es id).map (farE id)).mergeSort fun x y=>decide (x≤y)).length≤1000:=by
  rw [List.length_mergeSort,List.length_map]
  exact Nat.le_trans (atE_len es id) h
 have hs:sortInts ((atE es id).map (farE id)) = some (((atE es id).map (farE id)).mergeSort fun x y=>decide (x≤y)):=by
  unfold sortInts
  rw [dT (by have:=atE_len es id; rw [List.length_map]; omega),cond_true]
 unfold pf31
 refine bind_step (ends_loop es id h _ (by omega)) ?_
 refine bind_step hs ?_
 show _ = some ((comp (((atE es id).map (farE id)).mergeSort fun x y=>decide (x≤y))).filter (fun x=>!decide (x = id)),())
 generalize (((atE es id).map (farE id)).mergeSort fun x y=>decide (x≤y)) = y at hlen ⊢
 by_cases hy:y.length < 2
 ·rw [dT (by omega),cond_true]
  have:=delT_eq y.length y.length y id (Nat.le_refl _) hlen
  rw [List.take_length] at this
  rw [comp_short y hy]
  exact this
 ·rw [dF (by omega),cond_false]
  rcases comp_first id y hlen (y.length - 1) (((y.length:Int) - (1:Int)).toNat + 1) 1 (by omega) (by omega) (by omega) (by omega) (comp_short _ (by rw [List.length_take]; omega)) with ⟨h1,h2⟩ | ⟨w,r',h1,h2,h3,h4⟩
  ·refine bind_step h1 ?_
   have:=delT_eq y.length y.length y id (Nat.le_refl _) hlen
   rw [List.take_length] at this
   rw [h2]
   exact this
  ·refine bind_step h1 ?_
   have:=delT_eq w r'.length r' id (by omega) (by omega)
   rw [h4] at this
   have hw:((r'.drop 0).take w).length = w:=by rw [List.length_take,List.length_drop]; omega
   show (pf125_l2x w (((r'.drop 0).take w).length:Int) w r'.length r' id (((((r'.drop 0).take w).length:Int) - (0:Int)).toNat + 1) (0:Int)).bind _ = _
   rw [hw]
   exact this
end Go.V.G
namespace Go.V.G
open Go.Proofs
def starV (v:Vx) (es:List Ed):List Vx:=(v :: (nb v.1 es).map farV).mergeSort leV
theorem distinct_of:∀ {l:List Vx},(l.map (·.1)).Nodup→distinctV l = true
 | [],_=>rfl
 | x :: l,h=>by
  rw [List.map_cons,List.nodup_cons] at h
  unfold distinctV
  rw [Bool.and_eq_true,List.all_eq_true]
  refine ⟨fun y hy=>?_,distinct_of h.2⟩
  have:x.1 ≠ y.1:=fun e=>h.1 (List.mem_map.2 ⟨y,hy,e.symm⟩)
  simp [this]
theorem star_nodup (v:Vx) (es:List Ed):((v :: (nb v.1 es).map farV).map (·.1)).Nodup:=by
 have e:(v :: (nb v.1 es).map farV).map (·.1) = v.1 :: nb v.1 es:=by
  rw [List.map_cons,List.map_map]
  congr 1
  exact List.map_id _
 rw [e,List.nodup_cons]
 refine ⟨fun h=>((nb_mem v.1 es v.1).1 h).1 rfl,?_⟩
 exact (nb_asc v.1 es).imp (fun h e=>by omega)
theorem starV_asc (v:Vx) (es:List Ed):asc kV (starV v es) = true:=by
 rw [asc_pairwise]
 have h1:(starV v es).Pairwise (fun a b=>leV a b = true):=List.pairwise_mergeSort (le:=leV) (by intro a b c; unfold leV; simp; omega) (by intro a b; unfold leV; simp; omega) _
 have h2:((starV v es).map (·.1)).Nodup:=((List.mergeSort_perm _ _).map _).nodup_iff.2 (star_nodup v es)
 have h3:(starV v es).Pairwise (fun a b=>a.1 ≠ b.1):=List.pairwise_map.1 h2
 exact (h1.and h3).imp (fun {a b} h=>by
  have h4:=h.1
  unfold leV at h4
  simp only [decide_eq_true_eq] at h4
  have h5:=h.2
  show a.1 < b.1
  omega)
theorem starV_mem (v:Vx) (es:List Ed) (x:Vx):x∈starV v es ↔ x = v ∨ ∃ d∈nb v.1 es,farV d = x:=by
 unfold starV
 rw [List.mem_mergeSort,List.mem_cons,List.mem_map]
theorem star_eq67 (v:Vx) (es:List Ed) (h:es.length≤500) (hv:smallI v.1) (he:∀ e∈es,smallI e.2.1∧smallI e.2.2.1):f67 v es = some ((starV v es,es,[],()),()):=by
 have hn:=nb_len v.1 es
 unfold f67
 refine bind_step (pf31_eq v.1 es (by omega)) ?_
 have h1:=far_rows es (nb v.1 es) [] [v] (((nb v.1 es).length:Int) - (0:Int)).toNat.succ (by omega) (by simp; omega) (by simp; omega)
 refine bind_step h1 ?_
 have hs:sortV (v :: (nb v.1 es).map farV) = some (starV v es):=by
  unfold sortV starV
  have e1:smallV (v :: (nb v.1 es).map farV) = true:=by
   unfold smallV
   rw [List.all_eq_true]
   intro x hx
   have:smallI x.1:=by
    rcases List.mem_cons.1 hx with rfl | hx
    ·exact hv
    ·obtain ⟨d,hd,rfl⟩:=List.mem_map.1 hx
     obtain ⟨_,e,h2,h3,h4⟩:=(nb_mem v.1 es d).1 hd
     have:=he e h2
     show smallI d
     rw [← h4]
     unfold farE
     split
     ·exact this.2
     ·split
      ·exact this.1
      ·unfold smallI maxI; omega
   unfold smallI maxI at this
   simp only [Bool.and_eq_true,decide_eq_true_eq]
   omega
  rw [distinct_of (star_nodup v es),e1,dT (by simp; omega)]
  rfl
 refine bind_step hs ?_
 rfl
def good (v:Vx) (es:List Ed):Bool:=okV v && asc kE es && es.all (fun e=>okE e && isAt v.1 e)
theorem star_has (v:Vx) (es:List Ed) (e:Ed) (he:e∈es) (ha:isAt v.1 e = true):hasV (starV v es) e.2.1 = true∧hasV (starV v es) e.2.2.1 = true:=by
 have hv:hasV (starV v es) v.1 = true:=List.any_eq_true.2 ⟨v,(starV_mem v es v).2 (.inl rfl),by simp⟩
 have hn:∀ d,d∈nb v.1 es→hasV (starV v es) d = true:=fun d hd=>List.any_eq_true.2 ⟨farV d,(starV_mem v es _).2 (.inr ⟨d,hd,rfl⟩),by simp [farV]⟩
 have hf:hasV (starV v es) (farE v.1 e) = true:=by
  by_cases h:farE v.1 e = v.1
  ·rw [h]; exact hv
  ·exact hn _ ((nb_mem v.1 es _).2 ⟨h,e,he,ha,rfl⟩)
 unfold isAt at ha
 unfold farE at hf
 simp only [Bool.or_eq_true,decide_eq_true_eq] at ha
 by_cases h1:v.1 = e.2.1
 ·rw [if_pos h1] at hf
  exact ⟨h1 ▸ hv,hf⟩
 ·rw [if_neg h1] at hf
  have h2:v.1 = e.2.2.1:=by
   rcases ha with ha | ha
   ·exact absurd ha.symm h1
   ·exact ha.symm
  rw [if_pos h2] at hf
  exact ⟨hf,h2 ▸ hv⟩
theorem star_valid (vs:List Vx) (v:Vx) (es:List Ed) (ha:∀ e∈es,isAt v.1 e = true) (h1:asc kV vs = true) (h2:∀ x∈vs,x = v ∨ x.2.1 = 0∧∃ e∈es,e.2.1 = x.1 ∨ e.2.2.1 = x.1) (h3:v∈vs) (h4:∀ e∈es,okE e = true→hasV vs e.2.1 = true∧hasV vs e.2.2.1 = true):valid (vs,es,[],()) = good v es:=by
 unfold valid good
 simp only [h1,Bool.true_and,List.length_nil,List.all_nil,Bool.and_true]
 have e0:asc kI [] = true:=rfl
 rw [e0,dT (by omega:0≤3)]
 simp only [Bool.and_true]
 apply Bool.eq_iff_iff.2
 simp only [Bool.and_eq_true,List.all_eq_true]
 constructor
 ·rintro ⟨⟨a,b⟩,c⟩
  exact ⟨⟨b v h3,a⟩,fun e he=>⟨(c e he).1.1,ha e he⟩⟩
 ·rintro ⟨⟨a,b⟩,c⟩
  refine ⟨⟨b,fun x hx=>?_⟩,fun e he=>⟨⟨(c e he).1,(h4 e he (c e he).1).1⟩,(h4 e he (c e he).1).2⟩⟩
  rcases h2 x hx with rfl | ⟨h5,e,he,h6⟩
  ·exact a
  ·have h7:=(c e he).1
   unfold okE at h7
   unfold okV
   simp only [Bool.and_eq_true,decide_eq_true_eq] at h7 ⊢
   omega
theorem starV_valid (v:Vx) (es:List Ed) (ha:∀ e∈es,isAt v.1 e = true):valid (starV v es,es,[],()) = good v es:=by
 refine star_valid _ v es ha (starV_asc v es) (fun x hx=>?_) ((starV_mem v es v).2 (.inl rfl)) (fun e he _=>star_has v es e he (ha e he))
 rcases (starV_mem v es x).1 hx with h | ⟨d,h1,rfl⟩
 ·exact .inl h
 ·obtain ⟨h2,e,h3,h4,h5⟩:=(nb_mem v.1 es d).1 h1
  refine .inr ⟨rfl,e,h3,?_⟩
  show e.2.1 = d ∨ e.2.2.1 = d
  rw [← h5]
  unfold farE
  unfold isAt at h4
  simp only [Bool.or_eq_true,decide_eq_true_eq] at h4
  split
  ·exact .inr rfl
  ·split
   ·exact .inl rfl
   ·rename_i h6 h7
    rcases h4 with h4 | h4
    ·exact absurd h4.symm h6
    ·exact absurd h4.symm h7
theorem starV_len (v:Vx) (es:List Ed):(starV v es).length≤es.length + 1:=by
 unfold starV
 rw [List.length_mergeSort,List.length_cons,List.length_map]
 have:=nb_len v.1 es
 omega
theorem star_check (v:Vx) (es:List Ed) (h:es.length≤500) (hv:smallI v.1) (he:∀ e∈es,smallI e.2.1∧smallI e.2.2.1) (ha:∀ e∈es,isAt v.1 e = true) :
  f46 (starV v es,es,[],()) = some (good v es,()):=by
 have h1:=starV_len v es
 rw [f46_eq (starV v es,es,[],()) (show (starV v es).length≤_ by omega) (show es.length≤_ by omega) (by simp),starV_valid v es ha]
end Go.V.G
namespace Go.V.G
open Go.Proofs
def rdI (bs:List Nat):Option (Int × List Nat):=(dec bs).map fun x=>(x.1,bs.drop x.2)
theorem rdI_some {bs:List Nat} {n:Int} {t:List Nat} (h:rdI bs = some (n,t)):smallI n∧bs = grpN (zig n)++t:=by
 unfold rdI at h
 obtain ⟨⟨m,k⟩,h1,h2⟩:=Option.map_eq_some_iff.1 h
 simp only [Prod.mk.injEq] at h2
 obtain ⟨rfl,rfl⟩:=h2
 obtain ⟨h3,h4,t,h5⟩:=dec_some h1
 refine ⟨⟨h3,dec_le h1⟩,?_⟩
 rw [h5,h4,List.drop_left']
 rfl
theorem rdI_enc {n:Int} (h:smallI n) (t:List Nat):rdI (grpN (zig n)++t) = some (n,t):=by
 unfold rdI
 rw [dec_enc h.1 h.2 t,Option.map_some]
 simp only [Option.some.injEq,Prod.mk.injEq,true_and]
 rw [List.drop_left']
 rfl
theorem read_cases (s:ByteArray) (hs:s.size≤1099511627776) (a:Nat) (ha:a≤s.size) :
  (rdI ((nbytes s).drop a) = none∧f118 s (a:Int) = some (0,0,10,())) ∨
  ∃ (n:Int) (a':Nat),rdI ((nbytes s).drop a) = some (n,(nbytes s).drop a')∧f118 s (a:Int) = some (n,(a':Int),0,())∧a'≤s.size∧smallI n:=by
 rw [f118_eq s hs a ha]
 unfold rdI
 cases h:dec ((nbytes s).drop a) with
 | none=>left; exact ⟨rfl,rfl⟩
 | some x =>
  obtain ⟨n,k⟩:=x
  right
  obtain ⟨h3,h4,t,h5⟩:=dec_some h
  refine ⟨n,a + k,?_,rfl,?_,h3,dec_le h⟩
  ·rw [Option.map_some,List.drop_drop]
  ·have:=congrArg List.length h5
   rw [List.length_drop,nbytes_len,List.length_append] at this
   omega
def rdE (bs:List Nat):Option (Ed × List Nat) :=
 (rdI bs).bind fun x1=>(rdI x1.2).bind fun x2=>(rdI x2.2).bind fun x3=>(rdI x3.2).bind fun x4 =>
 if x4.1 = 0 ∨ x4.1 = 1 then (rdI x4.2).bind fun x5=>(rdI x5.2).bind fun x6=>some ((x1.1,x2.1,x3.1,decide (x4.1 = 1),x5.1,x6.1,()),x6.2) else none
def rdEs:Nat→List Nat→Option (List Ed × List Nat)
 | 0,bs=>some ([],bs)
 | n + 1,bs=>(rdE bs).bind fun x=>(rdEs n x.2).bind fun y=>some (x.1 :: y.1,y.2)
def parse (bs:List Nat):Option (Vx × List Ed) :=
 (rdI bs).bind fun x=>(rdI x.2).bind fun y=>(rdI y.2).bind fun z =>
 if 0≤z.1∧z.1≤40 then (rdEs z.1.toNat z.2).bind fun w=>if good (x.1,y.1,()) w.1 = true∧w.2 = [] then some ((x.1,y.1,()),w.1) else none else none
def parsed:Option (Vx × List Ed)→Vx × List Ed × Int × Unit
 | some (v,es)=>(v,es,0,())
 | none=>((0,0,()),[],60,())
theorem rdE_some {bs:List Nat} {e:Ed} {t:List Nat} (h:rdE bs = some (e,t)):smallE e∧bs = nbytes (encs (six e))++t:=by
 unfold rdE at h
 simp only [Option.bind_eq_some_iff] at h
 obtain ⟨⟨n1,t1⟩,h1,⟨n2,t2⟩,h2,⟨n3,t3⟩,h3,⟨n4,t4⟩,h4,h⟩:=h
 split at h
 ·rename_i h01
  simp only [Option.bind_eq_some_iff] at h
  obtain ⟨⟨n5,t5⟩,h5,⟨n6,t6⟩,h6,h⟩:=h
  simp only [Option.some.injEq,Prod.mk.injEq] at h
  obtain ⟨rfl,rfl⟩:=h
  obtain ⟨s1,e1⟩:=rdI_some h1
  obtain ⟨s2,e2⟩:=rdI_some h2
  obtain ⟨s3,e3⟩:=rdI_some h3
  obtain ⟨s4,e4⟩:=rdI_some h4
  obtain ⟨s5,e5⟩:=rdI_some h5
  obtain ⟨s6,e6⟩:=rdI_some h6
  simp only at e1 e2 e3 e4 e5 e6 h01
  have hd:(if decide (n4 = 1) = true then (1:Int) else 0) = n4:=by
   rcases h01 with rfl | rfl <;> rfl
  have h6':six (n1,n2,n3,decide (n4 = 1),n5,n6,()) = [n1,n2,n3,n4,n5,n6]:=by
   unfold six
   simp only [hd]
  unfold smallE
  rw [h6']
  refine ⟨fun n hn=>?_,?_⟩
  ·simp only [List.mem_cons,List.not_mem_nil,or_false] at hn
   rcases hn with rfl | rfl | rfl | rfl | rfl | rfl <;> assumption
  ·rw [e1,e2,e3,e4,e5,e6,nbytes_encs]
   simp only [List.flatMap_cons,List.flatMap_nil,List.append_nil,List.append_assoc]
 ·cases h
theorem rdE_enc {e:Ed} (h:smallE e) (t:List Nat):rdE (nbytes (encs (six e))++t) = some (e,t):=by
 obtain ⟨n1,n2,n3,b,n5,n6,u⟩:=e
 have g (n:Int) (hn:n∈six (n1,n2,n3,b,n5,n6,u)):smallI n:=h n hn
 have g1:=g n1 (by simp [six])
 have g2:=g n2 (by simp [six])
 have g3:=g n3 (by simp [six])
 have g4:=g (if b = true then 1 else 0) (by simp [six])
 have g5:=g n5 (by simp [six])
 have g6:=g n6 (by simp [six])
 rw [nbytes_encs]
 unfold six
 simp only [List.flatMap_cons,List.flatMap_nil,List.append_nil,List.append_assoc]
 unfold rdE
 simp only [rdI_enc g1,rdI_enc g2,rdI_enc g3,rdI_enc g4,rdI_enc g5,rdI_enc g6,Option.bind_some]
 cases b <;> simp
theorem rdEs_some:∀ {n:Nat} {bs:List Nat} {es:List Ed} {t:List Nat},rdEs n bs = some (es,t)→es.length = n∧(∀ e∈es,smallE e)∧bs = nbytes (encs (es.flatMap six))++t
 | 0,bs,es,t,h=>by
  simp only [rdEs,Option.some.injEq,Prod.mk.injEq] at h
  obtain ⟨rfl,rfl⟩:=h
  refine ⟨rfl,fun e he=>(by simp at he),?_⟩
  rfl
 | n + 1,bs,es,t,h=>by
  simp only [rdEs,Option.bind_eq_some_iff] at h
  obtain ⟨⟨e,t1⟩,h1,⟨l,t2⟩,h2,h3⟩:=h
  simp only [Option.some.injEq,Prod.mk.injEq] at h3
  obtain ⟨rfl,rfl⟩:=h3
  obtain ⟨h4,h5⟩:=rdE_some h1
  obtain ⟨h6,h7,h8⟩:=rdEs_some h2
  refine ⟨by simp [h6],fun x hx=>?_,?_⟩
  ·rcases List.mem_cons.1 hx with rfl | hx
   ·exact h4
   ·exact h7 x hx
  ·rw [h5]
   simp only at h8
   rw [h8,List.flatMap_cons,encs_app,nbytes_app,List.append_assoc]
theorem rdEs_enc:∀ (es:List Ed) (h:∀ e∈es,smallE e) (t:List Nat),rdEs es.length (nbytes (encs (es.flatMap six))++t) = some (es,t)
 | [],_,t=>rfl
 | e :: es,h,t=>by
  rw [List.flatMap_cons,encs_app,nbytes_app,List.append_assoc,List.length_cons]
  simp only [rdEs]
  rw [rdE_enc (h e (List.mem_cons_self ..)),Option.bind_some]
  simp only
  rw [rdEs_enc es (fun x hx=>h x (List.mem_cons_of_mem _ hx)) t,Option.bind_some]
structure IsPage (s:ByteArray) (v:Vx) (es:List Ed):Prop where
 eq:s = encs (pageN v es)
 good:good v es = true
theorem good_small {v:Vx} {es:List Ed} (h:good v es = true):es.length≤40∧(∀ e∈es,smallE e)∧smallI v.1∧smallI v.2.1:=by
 unfold good at h
 simp only [Bool.and_eq_true,List.all_eq_true] at h
 obtain ⟨⟨h1,h2⟩,h3⟩:=h
 refine ⟨ascF_len kE es h2 39 fun e he=>?_,fun e he=>okE_small (h3 e he).1,?_⟩
 ·have:=(h3 e he).1
  unfold okE at this
  simp only [Bool.and_eq_true,decide_eq_true_eq] at this
  show 0≤e.1∧e.1≤39
  omega
 ·unfold okV at h1
  simp only [Bool.and_eq_true,decide_eq_true_eq] at h1
  unfold smallI maxI
  omega
theorem parse_iff (s:ByteArray) (v:Vx) (es:List Ed):parse (nbytes s) = some (v,es) ↔ IsPage s v es:=by
 constructor
 ·intro h
  unfold parse at h
  simp only [Option.bind_eq_some_iff] at h
  obtain ⟨⟨n1,t1⟩,h1,⟨n2,t2⟩,h2,⟨n3,t3⟩,h3,h⟩:=h
  split at h
  ·rename_i h01
   simp only [Option.bind_eq_some_iff] at h
   obtain ⟨⟨l,t4⟩,h4,h⟩:=h
   split at h
   ·rename_i h5
    simp only [Option.some.injEq,Prod.mk.injEq] at h
    obtain ⟨rfl,rfl⟩:=h
    obtain ⟨s1,e1⟩:=rdI_some h1
    obtain ⟨s2,e2⟩:=rdI_some h2
    obtain ⟨s3,e3⟩:=rdI_some h3
    obtain ⟨h6,h7,h8⟩:=rdEs_some h4
    simp only at e2 e3 h8 h6 h5 h01
    refine ⟨nbytes_inj ?_,h5.1⟩
    have e6:(l.length:Int) = n3:=by omega
    rw [e1,e2,e3,h8,h5.2,nbytes_encs]
    unfold pageN
    simp only [List.flatMap_cons,e6,List.append_nil,nbytes_encs]
   ·cases h
  ·cases h
 ·rintro ⟨h1,h2⟩
  obtain ⟨h3,h4,h5,h6⟩:=good_small h2
  have h7:smallI (es.length:Int):=by unfold smallI maxI; omega
  obtain ⟨n1,n2,u⟩:=v
  rw [h1,nbytes_encs]
  unfold pageN
  simp only [List.flatMap_cons]
  unfold parse
  rw [rdI_enc h5,Option.bind_some]
  simp only
  rw [rdI_enc h6,Option.bind_some]
  simp only
  rw [rdI_enc h7,Option.bind_some]
  simp only
  have:=rdEs_enc es h4 []
  rw [List.append_nil,nbytes_encs] at this
  rw [if_pos (by omega),Int.toNat_natCast,this,Option.bind_some]
  simp only
  rw [if_pos ⟨h2,trivial⟩]
def rdDs:Nat→Int→List Nat→Option (List Int × List Nat)
 | 0,_,bs=>some ([],bs)
 | n + 1,p,bs=>(rdI bs).bind fun x=>if p < x.1∧x.1 < 24 then (rdDs n x.1 x.2).bind fun y=>some (x.1 :: y.1,y.2) else none
def parseH (bs:List Nat):Option (List Int × Int) :=
 (rdI bs).bind fun x=>if 0≤x.1∧x.1≤3 then (rdDs x.1.toNat (-1) x.2).bind fun y=>(rdI y.2).bind fun z=>if 0≤z.1∧z.1 < 1099511627776∧z.2 = [] then some (y.1,z.1) else none else none
def parsedH:Option (List Int × Int)→List Int × Int × Int × Unit
 | some (ds,n)=>(ds,n,0,())
 | none=>([],0,60,())
structure IsHead (s:ByteArray) (ds:List Int) (n:Int):Prop where
 eq:s = encs ((ds.length:Int) :: (ds++[n]))
 len:ds.length≤3
 asc:asc kI ds = true
 rng:∀ d∈ds,0≤d∧d≤23
 lo:0≤n
 hi:n < 1099511627776
theorem rdDs_some:∀ {n:Nat} {p:Int} {bs:List Nat} {ds:List Int} {t:List Nat},rdDs n p bs = some (ds,t)→ds.length = n∧(∀ d∈ds,smallI d∧p < d∧d < 24)∧asc kI (p :: ds) = true∧bs = nbytes (encs ds)++t
 | 0,p,bs,ds,t,h=>by
  simp only [rdDs,Option.some.injEq,Prod.mk.injEq] at h
  obtain ⟨rfl,rfl⟩:=h
  exact ⟨rfl,fun e he=>(by simp at he),rfl,rfl⟩
 | n + 1,p,bs,ds,t,h=>by
  simp only [rdDs,Option.bind_eq_some_iff] at h
  obtain ⟨⟨d,t1⟩,h1,h⟩:=h
  split at h
  ·rename_i hc
   simp only [Option.bind_eq_some_iff] at h
   obtain ⟨⟨l,t2⟩,h2,h3⟩:=h
   simp only [Option.some.injEq,Prod.mk.injEq] at h3
   obtain ⟨rfl,rfl⟩:=h3
   obtain ⟨s1,e1⟩:=rdI_some h1
   obtain ⟨h6,h7,h8,h9⟩:=rdDs_some h2
   simp only at hc h6 h7 h8 h9
   refine ⟨by simp [h6],fun x hx=>?_,?_,?_⟩
   ·rcases List.mem_cons.1 hx with rfl | hx
    ·exact ⟨s1,hc⟩
    ·have:=h7 x hx
     exact ⟨this.1,by omega,this.2.2⟩
   ·rw [asc_two,h8,Bool.and_true,decide_eq_true_eq]
    exact hc.1
   ·rw [e1,h9]
    show _ = nbytes (enc d++encs l)++t2
    rw [nbytes_app,nbytes_enc,List.append_assoc]
  ·cases h
theorem rdDs_enc:∀ (ds:List Int) (p:Int) (t:List Nat),(∀ d∈ds,smallI d∧d < 24)→asc kI (p :: ds) = true→rdDs ds.length p (nbytes (encs ds)++t) = some (ds,t)
 | [],_,t,_,_=>rfl
 | d :: ds,p,t,h,ha=>by
  have h0:=h d (List.mem_cons_self ..)
  rw [asc_two,Bool.and_eq_true,decide_eq_true_eq] at ha
  have e:nbytes (encs (d :: ds))++t = grpN (zig d)++(nbytes (encs ds)++t):=by
   show nbytes (enc d++encs ds)++t = _
   rw [nbytes_app,nbytes_enc,List.append_assoc]
  rw [e,List.length_cons]
  simp only [rdDs]
  rw [rdI_enc h0.1,Option.bind_some]
  simp only
  have h1:p < d:=ha.1
  rw [if_pos ⟨h1,h0.2⟩,rdDs_enc ds d t (fun x hx=>h x (List.mem_cons_of_mem _ hx)) ha.2,Option.bind_some]
theorem parseH_iff (s:ByteArray) (ds:List Int) (n:Int):parseH (nbytes s) = some (ds,n) ↔ IsHead s ds n:=by
 constructor
 ·intro h
  unfold parseH at h
  simp only [Option.bind_eq_some_iff] at h
  obtain ⟨⟨m,t1⟩,h1,h⟩:=h
  split at h
  ·rename_i hc
   simp only [Option.bind_eq_some_iff] at h
   obtain ⟨⟨l,t2⟩,h2,⟨z,t3⟩,h3,h⟩:=h
   split at h
   ·rename_i hz
    simp only [Option.some.injEq,Prod.mk.injEq] at h
    obtain ⟨rfl,rfl⟩:=h
    obtain ⟨s1,e1⟩:=rdI_some h1
    obtain ⟨s3,e3⟩:=rdI_some h3
    obtain ⟨h6,h7,h8,h9⟩:=rdDs_some h2
    simp only at hc h6 h7 h8 h9 hz e3
    refine ⟨nbytes_inj ?_,by omega,?_,fun d hd=>?_,hz.1,hz.2.1⟩
    ·have e6:(l.length:Int) = m:=by omega
     rw [e1,h9,e3,hz.2.2,e6]
     show _ = nbytes (enc m++encs (l++[z]))
     rw [nbytes_app,nbytes_enc,encs_app,nbytes_app]
     show _ = grpN (zig m)++(nbytes (encs l)++nbytes (enc z++encs []))
     rw [nbytes_app,nbytes_enc]
     rfl
    ·exact (asc_pairwise kI).2 (List.pairwise_cons.1 ((asc_pairwise kI).1 h8)).2
    ·have:=h7 d hd
     omega
   ·cases h
  ·cases h
 ·rintro ⟨h1,h2,h3,h4,h5,h6⟩
  have h7:smallI (ds.length:Int):=by unfold smallI maxI; omega
  have h8:smallI n:=by unfold smallI maxI; omega
  have e:nbytes s = grpN (zig (ds.length:Int))++(nbytes (encs ds)++(grpN (zig n)++[])):=by
   rw [h1]
   show nbytes (enc (ds.length:Int)++encs (ds++[n])) = _
   rw [nbytes_app,nbytes_enc,encs_app,nbytes_app]
   show grpN (zig (ds.length:Int))++(nbytes (encs ds)++nbytes (enc n++encs [])) = _
   rw [nbytes_app,nbytes_enc]
   rfl
  have ha:Go.V.G.asc kI ((-1) :: ds) = true:=by
   refine (asc_pairwise kI).2 (List.pairwise_cons.2 ⟨fun d hd=>?_,(asc_pairwise kI).1 h3⟩)
   have:=h4 d hd
   show (-1:Int) < d
   omega
  unfold parseH
  rw [e,rdI_enc h7,Option.bind_some]
  simp only
  rw [if_pos (by omega),Int.toNat_natCast,rdDs_enc ds (-1) _ (fun d hd=>by have:=h4 d hd; exact ⟨by unfold smallI maxI; omega,by omega⟩) ha,Option.bind_some]
  simp only
  rw [rdI_enc h8,Option.bind_some]
  simp only
  rw [if_pos ⟨h5,h6,trivial⟩]
end Go.V.G
namespace Go.V.G
open Go.Proofs
theorem edges_read (s:ByteArray) (hs:s.size≤1099511627776) (m k2 v0 v1:Int) (bo:Bool) (x0 x1:Int):∀ (n k a j:Nat) (acc:List Ed),a≤s.size→acc.length≤j→j + n≤1000→m = ((j + n:Nat):Int)→n < k →
  (rdEs n ((nbytes s).drop a) = none∧∃ o,o.2.2.1.1 = bo∧f59_l4x m s k2 s v0 v1 bo x0 x1 k (j:Int) (a:Int) acc = some (.inr o)) ∨
  ∃ (es:List Ed) (a':Nat),rdEs n ((nbytes s).drop a) = some (es,(nbytes s).drop a')∧a'≤s.size∧f59_l4x m s k2 s v0 v1 bo x0 x1 k (j:Int) (a:Int) acc = some (.inl ((),((s,()),(),(k2,()),()),((v0,v1,()),(),(bo,()),(s,(a':Int),()),(x0,x1,()),acc++es,())))
 | 0,k,a,j,acc,ha,hacc,hj,hm,hk=>by
  obtain ⟨k,rfl⟩:∃ q,k = q + 1:=⟨k - 1,by omega⟩
  right
  refine ⟨[],a,rfl,ha,?_⟩
  have e1:decide ((j:Int) < m) = false:=by subst hm; simp
  unfold f59_l4x
  rw [e1,List.append_nil]
  rfl
 | n + 1,k,a,j,acc,ha,hacc,hj,hm,hk=>by
  obtain ⟨k,rfl⟩:∃ q,k = q + 1:=⟨k - 1,by omega⟩
  have e1:decide ((j:Int) < m) = true:=by subst hm; simp; omega
  have hu:=f59_l4x.eq_2 m s k2 s v0 v1 bo x0 x1 (j:Int) (a:Int) acc k
  rw [e1,cond_true] at hu
  rcases read_cases s hs a ha with ⟨r1,g1⟩ | ⟨n1,a1,r1,g1,l1,q1⟩
  ·exact .inl ⟨by simp [rdEs,rdE,r1],_,rfl,hu.trans (bind_step g1 rfl)⟩
  rcases read_cases s hs a1 l1 with ⟨r2,g2⟩ | ⟨n2,a2,r2,g2,l2,q2⟩
  ·exact .inl ⟨by simp [rdEs,rdE,r1,r2],_,rfl,hu.trans (bind_step g1 (bind_step g2 rfl))⟩
  rcases read_cases s hs a2 l2 with ⟨r3,g3⟩ | ⟨n3,a3,r3,g3,l3,q3⟩
  ·exact .inl ⟨by simp [rdEs,rdE,r1,r2,r3],_,rfl,hu.trans (bind_step g1 (bind_step g2 (bind_step g3 rfl)))⟩
  rcases read_cases s hs a3 l3 with ⟨r4,g4⟩ | ⟨n4,a4,r4,g4,l4,q4⟩
  ·exact .inl ⟨by simp [rdEs,rdE,r1,r2,r3,r4],_,rfl,hu.trans (bind_step g1 (bind_step g2 (bind_step g3 (bind_step g4 rfl))))⟩
  have hu':=hu.trans (bind_step g1 (bind_step g2 (bind_step g3 (bind_step g4 rfl))))
  clear hu
  simp only [decide_true,Bool.not_true,cond_false] at hu'
  by_cases h0:n4 = 0
  ·subst h0
   rw [show decide ((0:Int) = 0) = true from rfl,cond_true] at hu'
   rcases read_cases s hs a4 l4 with ⟨r5,g5⟩ | ⟨n5,a5,r5,g5,l5,q5⟩
   ·exact .inl ⟨by simp [rdEs,rdE,r1,r2,r3,r4,r5],_,rfl,hu'.trans (bind_step g5 rfl)⟩
   rcases read_cases s hs a5 l5 with ⟨r6,g6⟩ | ⟨n6,a6,r6,g6,l6,q6⟩
   ·exact .inl ⟨by simp [rdEs,rdE,r1,r2,r3,r4,r5,r6],_,rfl,hu'.trans (bind_step g5 (bind_step g6 rfl))⟩
   have q:decide (acc.length + ([(n1,n2,n3,false,n5,n6,())]:List Ed).length≤appLim) = true:=appOk _ _ (by simp; omega)
   have hE:rdE ((nbytes s).drop a) = some ((n1,n2,n3,false,n5,n6,()),(nbytes s).drop a6):=by simp [rdE,r1,r2,r3,r4,r5,r6]
   have hs1:f59_l4x m s k2 s v0 v1 bo x0 x1 (k + 1) (j:Int) (a:Int) acc = f59_l4x m s k2 s v0 v1 bo x0 x1 k ((j + 1:Nat):Int) (a6:Int) (acc++[(n1,n2,n3,false,n5,n6,())]):=by
    refine hu'.trans (bind_step g5 (bind_step g6 ?_))
    simp only [decide_true,Bool.not_true,cond_false,show decide ((0:Int) = 1) = false from rfl,q,cond_true,wS j (by omega)]
   rcases edges_read s hs m k2 v0 v1 bo x0 x1 n k a6 (j + 1) (acc++[(n1,n2,n3,false,n5,n6,())]) l6 (by simp; omega) (by omega) (by omega) (by omega) with ⟨h1,o,ho,h2⟩ | ⟨es,a',h1,h2,h3⟩
   ·exact .inl ⟨by simp [rdEs,hE,h1],o,ho,hs1.trans h2⟩
   ·refine .inr ⟨(n1,n2,n3,false,n5,n6,()) :: es,a',by simp [rdEs,hE,h1],h2,hs1.trans (h3.trans ?_)⟩
    rw [List.append_assoc]
    rfl
  ·rw [dF h0,cond_false] at hu'
   by_cases h1':n4 = 1
   ·subst h1'
    rw [show decide ((1:Int) = 1) = true from rfl,Bool.not_true,cond_false] at hu'
    rcases read_cases s hs a4 l4 with ⟨r5,g5⟩ | ⟨n5,a5,r5,g5,l5,q5⟩
    ·exact .inl ⟨by simp [rdEs,rdE,r1,r2,r3,r4,r5],_,rfl,hu'.trans (bind_step g5 rfl)⟩
    rcases read_cases s hs a5 l5 with ⟨r6,g6⟩ | ⟨n6,a6,r6,g6,l6,q6⟩
    ·exact .inl ⟨by simp [rdEs,rdE,r1,r2,r3,r4,r5,r6],_,rfl,hu'.trans (bind_step g5 (bind_step g6 rfl))⟩
    have q:decide (acc.length + ([(n1,n2,n3,true,n5,n6,())]:List Ed).length≤appLim) = true:=appOk _ _ (by simp; omega)
    have hE:rdE ((nbytes s).drop a) = some ((n1,n2,n3,true,n5,n6,()),(nbytes s).drop a6):=by simp [rdE,r1,r2,r3,r4,r5,r6]
    have hs1:f59_l4x m s k2 s v0 v1 bo x0 x1 (k + 1) (j:Int) (a:Int) acc = f59_l4x m s k2 s v0 v1 bo x0 x1 k ((j + 1:Nat):Int) (a6:Int) (acc++[(n1,n2,n3,true,n5,n6,())]):=by
     refine hu'.trans (bind_step g5 (bind_step g6 ?_))
     simp only [decide_true,Bool.not_true,cond_false,q,cond_true,wS j (by omega)]
    rcases edges_read s hs m k2 v0 v1 bo x0 x1 n k a6 (j + 1) (acc++[(n1,n2,n3,true,n5,n6,())]) l6 (by simp; omega) (by omega) (by omega) (by omega) with ⟨h1,o,ho,h2⟩ | ⟨es,a',h1,h2,h3⟩
    ·exact .inl ⟨by simp [rdEs,hE,h1],o,ho,hs1.trans h2⟩
    ·refine .inr ⟨(n1,n2,n3,true,n5,n6,()) :: es,a',by simp [rdEs,hE,h1],h2,hs1.trans (h3.trans ?_)⟩
     rw [List.append_assoc]
     rfl
   ·rw [dF h1',Bool.not_false,cond_true] at hu'
    exact .inl ⟨by simp [rdEs,rdE,r1,r2,r3,r4,h0,h1'],_,rfl,hu'⟩
def nonneg (e:Ed):Bool:=decide (0≤e.2.1) && decide (0≤e.2.2.1)
theorem neg_read (z1 z2:Bool) (s:ByteArray) (z4:Int) (es:List Ed) (hl:es.length≤1000) (v0 v1:Int) (bo:Bool) (t:ByteArray) (a x0 x1:Int) (k:Nat) (hk:es.length < k) :
  (es.all nonneg = true∧f119_l2x (es.length:Int) z1 z2 s z4 es v0 v1 bo t a x0 x1 k 0 = some (.inl ((),((z1,()),(z2,()),(s,()),(),(z4,()),()),((v0,v1,()),(),(bo,()),(t,a,()),(x0,x1,()),es,())))) ∨
  (es.all nonneg = false∧∃ i:Nat,f119_l2x (es.length:Int) z1 z2 s z4 es v0 v1 bo t a x0 x1 k 0 = some (.inr (((i:Int),()),((z1,()),(z2,()),(s,()),(),(z4,()),()),((v0,v1,()),(),(bo,()),(t,a,()),(x0,x1,()),es,())))):=by
 have h:=find_loop tE nonneg (fun k j=>f119_l2x (es.length:Int) z1 z2 s z4 es v0 v1 bo t a x0 x1 k j) (.inl ((),((z1,()),(z2,()),(s,()),(),(z4,()),()),((v0,v1,()),(),(bo,()),(t,a,()),(x0,x1,()),es,()))) (fun i=>.inr (((i:Int),()),((z1,()),(z2,()),(s,()),(),(z4,()),()),((v0,v1,()),(),(bo,()),(t,a,()),(x0,x1,()),es,()))) es (by
  intro k j
  show f119_l2x (es.length:Int) z1 z2 s z4 es v0 v1 bo t a x0 x1 (k + 1) (j:Int) = _
  conv=>lhs; unfold f119_l2x
  by_cases hj:j < es.length
  ·have e1:decide ((j:Int) < (es.length:Int)) = true:=by simp; omega
   have hget:at_ tE es (j:Int) = es[j]:=atN tE es j hj
   have h4:f65 es[j] = some (!nonneg es[j],()):=by
    unfold f65 nonneg
    simp only [Option.some.injEq,Prod.mk.injEq,and_true]
    by_cases c1:0≤es[j].2.1 <;> by_cases c2:0≤es[j].2.2.1
    ·rw [dF (by split <;> omega),dT c1,dT c2]; rfl
    ·rw [dT (by split <;> omega),dT c1,dF c2]; rfl
    ·rw [dT (by split <;> omega),dF c1]; rfl
    ·rw [dT (by split <;> omega),dF c1]; rfl
   rw [e1,inRN,dT hj,hget,wS j (by omega),dif_pos hj]
   rw [cond_true,cond_true]
   refine bind_step h4 ?_
   cases nonneg es[j] <;> rfl
  ·have e1:decide ((j:Int) < (es.length:Int)) = false:=by simp; omega
   rw [dif_neg hj,e1]; rfl)
 rcases h es.length k 0 (by omega) hk with ⟨h1,h2⟩ | ⟨h1,i,_,_,h2⟩
 ·exact .inl ⟨h1,h2⟩
 ·exact .inr ⟨h1,i,h2⟩
theorem far_read (z1 z2:Bool) (s:ByteArray) (z4:Int) (es:List Ed) (hl:es.length≤1000) (v0 v1:Int) (bo:Bool) (t:ByteArray) (a x0 x1:Int) (k:Nat) (hk:es.length < k) :
  ((es.all fun e=>decide (0≤farE v0 e)) = true∧f119_l2y (es.length:Int) z1 z2 s z4 es v0 v1 bo t a x0 x1 k 0 = some (.inl ((),((z1,()),(z2,()),(s,()),(),(z4,()),()),((v0,v1,()),(),(bo,()),(t,a,()),(x0,x1,()),es,())))) ∨
  ((es.all fun e=>decide (0≤farE v0 e)) = false∧∃ i:Nat,f119_l2y (es.length:Int) z1 z2 s z4 es v0 v1 bo t a x0 x1 k 0 = some (.inr (((i:Int),()),((z1,()),(z2,()),(s,()),(),(z4,()),()),((v0,v1,()),(),(bo,()),(t,a,()),(x0,x1,()),es,())))):=by
 have h:=find_loop tE (fun e=>decide (0≤farE v0 e)) (fun k j=>f119_l2y (es.length:Int) z1 z2 s z4 es v0 v1 bo t a x0 x1 k j) (.inl ((),((z1,()),(z2,()),(s,()),(),(z4,()),()),((v0,v1,()),(),(bo,()),(t,a,()),(x0,x1,()),es,()))) (fun i=>.inr (((i:Int),()),((z1,()),(z2,()),(s,()),(),(z4,()),()),((v0,v1,()),(),(bo,()),(t,a,()),(x0,x1,()),es,()))) es (by
  intro k j
  show f119_l2y (es.length:Int) z1 z2 s z4 es v0 v1 bo t a x0 x1 (k + 1) (j:Int) = _
  conv=>lhs; unfold f119_l2y
  by_cases hj:j < es.length
  ·have e1:decide ((j:Int) < (es.length:Int)) = true:=by simp; omega
   have hget:at_ tE es (j:Int) = es[j]:=atN tE es j hj
   rw [e1,inRN,dT hj,hget,wS j (by omega),dif_pos hj]
   rw [cond_true,cond_true]
   refine bind_step (f64_eq es[j] v0) ?_
   by_cases hc:0≤farE v0 es[j]
   ·rw [if_pos (dT hc),dF (by show ¬ farE v0 es[j] < 0; omega)]; rfl
   ·rw [if_neg (by simp [hc]),dT (by show farE v0 es[j] < 0; omega)]; rfl
  ·have e1:decide ((j:Int) < (es.length:Int)) = false:=by simp; omega
   rw [dif_neg hj,e1]; rfl)
 rcases h es.length k 0 (by omega) hk with ⟨h1,h2⟩ | ⟨h1,i,_,_,h2⟩
 ·exact .inl ⟨h1,h2⟩
 ·exact .inr ⟨h1,i,h2⟩
theorem f25_eq (s:ByteArray) (hs:s.size≤1099511627776):f25 s = some (parsed (parse (nbytes s))):=by
 unfold f25 parse
 rcases read_cases s hs 0 (Nat.zero_le _) with ⟨r1,g1⟩ | ⟨n1,a1,r1,g1,l1,q1⟩
 ·rw [List.drop_zero] at r1
  rw [r1]
  exact bind_step g1 rfl
 rw [List.drop_zero] at r1
 rw [r1,Option.bind_some]
 refine bind_step g1 ?_
 rcases read_cases s hs a1 l1 with ⟨r2,g2⟩ | ⟨n2,a2,r2,g2,l2,q2⟩
 ·simp only [r2]
  exact bind_step g2 rfl
 simp only [r2,Option.bind_some]
 refine bind_step g2 ?_
 rcases read_cases s hs a2 l2 with ⟨r3,g3⟩ | ⟨n3,a3,r3,g3,l3,q3⟩
 ·simp only [r3]
  exact bind_step g3 rfl
 simp only [r3,Option.bind_some]
 refine bind_step g3 ?_
 by_cases c1:0≤n3
 ·by_cases c2:n3≤40
  ·rw [if_pos ⟨c1,c2⟩]
   rcases edges_read s hs n3 0 n1 n2 false 0 0 n3.toNat ((n3 - (0:Int)).toNat + 1) a3 0 [] l3 (by simp) (by omega) (by omega) (by omega) with ⟨h1,o,ho,h2⟩ | ⟨es,a4,h1,h2,h3⟩
   ·have h2':f59_l4x n3 s (0:Int) s n1 n2 false 0 0 ((n3 - (0:Int)).toNat + 1) (0:Int) (a3:Int) [] = _:=h2
    rw [h1,Option.bind_none]
    simp only [dT (show n3 ≥ 0 from c1),dT c2,decide_true,Bool.not_true,cond_false,cond_true]
    refine bind_step h2' ?_
    show (bif o.2.2.1.1 then _ else _) = _
    rw [ho]
    rfl
   ·have h3':f59_l4x n3 s (0:Int) s n1 n2 false 0 0 ((n3 - (0:Int)).toNat + 1) (0:Int) (a3:Int) [] = _:=h3
    rw [List.nil_append] at h3'
    obtain ⟨e1,e2,e3⟩:=rdEs_some h1
    have hlen:es.length≤40:=by omega
    have hse:∀ e∈es,smallI e.2.1∧smallI e.2.2.1:=fun e he=>⟨e2 e he _ (by simp [six]),e2 e he _ (by simp [six])⟩
    rw [h1,Option.bind_some]
    simp only [dT (show n3 ≥ 0 from c1),dT c2,decide_true,Bool.not_true,cond_false,cond_true]
    refine bind_step h3' ?_
    have hend:decide ((a4:Int) = (s.size:Int)) = decide ((nbytes s).drop a4 = []):=by
     apply decide_eq_decide.2
     rw [List.drop_eq_nil_iff,nbytes_len]
     omega
    have bad:∀ o:Bool,(bif o then (some ((0,(0,())),[],(60:Int),()):Option (Vx × List Ed × Int × Unit)) else some ((0,(0,())),[],(60:Int),())) = some (parsed none):=fun o=>by cases o <;> rfl
    have gv:good (n1,n2,()) es = true→0≤n1∧n1 < 24∧es.all nonneg = true∧(es.all fun e=>decide (0≤farE n1 e)) = true:=by
     intro hg
     unfold good okV at hg
     simp only [Bool.and_eq_true,List.all_eq_true,decide_eq_true_eq] at hg
     obtain ⟨⟨g1,g2⟩,g3⟩:=hg
     have hb:∀ e∈es,0≤e.2.1∧0≤e.2.2.1∧(e.2.1 = n1 ∨ e.2.2.1 = n1):=fun e he=>by
      obtain ⟨x1,x2⟩:=g3 e he
      unfold okE at x1
      unfold isAt at x2
      simp only [Bool.and_eq_true,Bool.or_eq_true,decide_eq_true_eq] at x1 x2
      omega
     refine ⟨by omega,by omega,List.all_eq_true.2 fun e he=>?_,List.all_eq_true.2 fun e he=>?_⟩
     ·have:=hb e he
      unfold nonneg
      simp only [Bool.and_eq_true,decide_eq_true_eq]
      omega
     ·have:=hb e he
      rw [decide_eq_true_eq]
      unfold farE
      split
      ·omega
      ·split <;> omega
    show (bif decide (n1 ≥ 0) then (bif decide (n1 < 24) then Option.bind (f119_l2x (es.length:Int) false true s 0 es n1 n2 false s (a4:Int) 0 0 (((es.length:Int) - (0:Int)).toNat + 1) 0) _ else _) else _) = _
    by_cases c3:n1 ≥ 0
    ·rw [dT c3,cond_true]
     by_cases c4:n1 < 24
     ·rw [dT c4,cond_true]
      rcases neg_read false true s 0 es (by omega) n1 n2 false s a4 0 0 (((es.length:Int) - (0:Int)).toNat + 1) (by omega) with ⟨x1,x2⟩ | ⟨x1,i,x2⟩
      ·refine bind_step x2 ?_
       show Option.bind (f119_l2y (es.length:Int) false true s 0 es n1 n2 false s (a4:Int) 0 0 (((es.length:Int) - (0:Int)).toNat + 1) 0) _ = _
       rcases far_read false true s 0 es (by omega) n1 n2 false s a4 0 0 (((es.length:Int) - (0:Int)).toNat + 1) (by omega) with ⟨y1,y2⟩ | ⟨y1,i,y2⟩
       ·refine bind_step y2 ?_
        show Option.bind (f67 (n1,n2,()) es) _ = _
        have hat:∀ e∈es,isAt n1 e = true:=fun e he=>by
         have z1:=List.all_eq_true.1 y1 e he
         rw [decide_eq_true_eq] at z1
         unfold farE at z1
         unfold isAt
         simp only [Bool.or_eq_true,decide_eq_true_eq]
         split at z1
         ·rename_i c; exact .inl c.symm
         ·split at z1
          ·rename_i c; exact .inr c.symm
          ·omega
        refine bind_step (star_eq67 (n1,n2,()) es (by omega) q1 hse) ?_
        refine bind_step (star_check (n1,n2,()) es (by omega) q1 hse hat) ?_
        show (bif !good (n1,n2,()) es then _ else (bif decide ((a4:Int) = (s.size:Int)) then some ((n1,n2,()),es,(0:Int),()) else _)) = _
        cases hg:good (n1,n2,()) es with
        | false =>
         rw [if_neg (fun h=>by cases h.1)]
         exact bad false
        | true =>
         rw [hend]
         by_cases c5:(nbytes s).drop a4 = []
         ·rw [dT c5,if_pos ⟨rfl,c5⟩]; rfl
         ·rw [dF c5,if_neg (fun h=>c5 h.2)]; rfl
       ·refine bind_step y2 ?_
        rw [if_neg (fun h=>by have:=(gv h.1).2.2.2; rw [y1] at this; cases this)]
        exact bad false
      ·refine bind_step x2 ?_
       rw [if_neg (fun h=>by have:=(gv h.1).2.2.1; rw [x1] at this; cases this)]
       exact bad false
     ·rw [dF c4,cond_false,if_neg (fun h=>c4 (gv h.1).2.1)]
      exact bad false
    ·rw [dF c3,cond_false,if_neg (fun h=>c3 (gv h.1).1)]
     exact bad false
  ·rw [if_neg (fun h=>c2 h.2)]
   simp only [dT (show n3 ≥ 0 from c1),dF c2,decide_true,Bool.not_true,Bool.not_false,cond_false,cond_true]
   rfl
 ·rw [if_neg (fun h=>c1 h.1)]
  simp only [dF (show ¬ n3 ≥ 0 from c1),decide_true,Bool.not_true,Bool.not_false,cond_false,cond_true]
  rfl
end Go.V.G
namespace Go.V.G
open Go.Proofs
theorem dues_read (s:ByteArray) (hs:s.size≤1099511627776) (m z3 z4 b6:Int) (bo:Bool):∀ (n k a j:Nat) (prev:Int) (acc:List Int),a≤s.size→acc.length≤j→j + n≤1000→m = ((j + n:Nat):Int)→n < k →
  (rdDs n prev ((nbytes s).drop a) = none∧∃ o,o.2.2.1.1 = bo∧f70_l4x m s z3 z4 s b6 bo k prev (j:Int) (a:Int) acc = some (.inr o)) ∨
  ∃ (ds:List Int) (a':Nat),rdDs n prev ((nbytes s).drop a) = some (ds,(nbytes s).drop a')∧a'≤s.size∧f70_l4x m s z3 z4 s b6 bo k prev (j:Int) (a:Int) acc = some (.inl ((),((s,()),(),(z3,z4,()),()),((s,(a':Int),()),(b6,()),(bo,()),(),acc++ds,())))
 | 0,k,a,j,prev,acc,ha,hacc,hj,hm,hk=>by
  obtain ⟨k,rfl⟩:∃ q,k = q + 1:=⟨k - 1,by omega⟩
  right
  refine ⟨[],a,rfl,ha,?_⟩
  have e1:decide ((j:Int) < m) = false:=by subst hm; simp
  unfold f70_l4x
  rw [e1,List.append_nil]
  rfl
 | n + 1,k,a,j,prev,acc,ha,hacc,hj,hm,hk=>by
  obtain ⟨k,rfl⟩:∃ q,k = q + 1:=⟨k - 1,by omega⟩
  have e1:decide ((j:Int) < m) = true:=by subst hm; simp; omega
  have hu:=f70_l4x.eq_2 m s z3 z4 s b6 bo prev (j:Int) (a:Int) acc k
  rw [e1,cond_true] at hu
  rcases read_cases s hs a ha with ⟨r1,g1⟩ | ⟨d,a1,r1,g1,l1,q1⟩
  ·exact .inl ⟨by simp [rdDs,r1],_,rfl,hu.trans (bind_step g1 rfl)⟩
  have hu':=hu.trans (bind_step g1 rfl)
  clear hu
  simp only [decide_true,Bool.not_true,cond_false] at hu'
  by_cases c1:prev < d
  ·by_cases c2:d < 24
   ·have q:decide (acc.length + ([d]:List Int).length≤appLim) = true:=appOk _ _ (by simp; omega)
    have hs1:f70_l4x m s z3 z4 s b6 bo (k + 1) prev (j:Int) (a:Int) acc = f70_l4x m s z3 z4 s b6 bo k d ((j + 1:Nat):Int) (a1:Int) (acc++[d]):=by
     rw [hu']
     simp only [dT c1,dT c2,Bool.not_true,cond_false,q,cond_true,wS j (by omega)]
    rcases dues_read s hs m z3 z4 b6 bo n k a1 (j + 1) d (acc++[d]) l1 (by simp; omega) (by omega) (by omega) (by omega) with ⟨h1,o,ho,h2⟩ | ⟨ds,a',h1,h2,h3⟩
    ·exact .inl ⟨by simp [rdDs,r1,c1,c2,h1],o,ho,hs1.trans h2⟩
    ·refine .inr ⟨d :: ds,a',by simp [rdDs,r1,c1,c2,h1],h2,hs1.trans (h3.trans ?_)⟩
     rw [List.append_assoc]
     rfl
   ·rw [dT c1,dF c2,Bool.not_false,cond_true,cond_true] at hu'
    exact .inl ⟨by simp [rdDs,r1,c1,c2],_,rfl,hu'⟩
  ·rw [dF c1,cond_false] at hu'
   exact .inl ⟨by simp [rdDs,r1,c1],_,rfl,hu'⟩
theorem f27_eq (s:ByteArray) (hs:s.size≤1099511627776):f27 s = some (parsedH (parseH (nbytes s))):=by
 unfold f27 parseH
 have bad:∀ o:Bool,(bif o then (some ([],(0:Int),(60:Int),()):Option (List Int × Int × Int × Unit)) else some ([],(0:Int),(60:Int),())) = some (parsedH none):=fun o=>by cases o <;> rfl
 rcases read_cases s hs 0 (Nat.zero_le _) with ⟨r1,g1⟩ | ⟨n1,a1,r1,g1,l1,q1⟩
 ·rw [List.drop_zero] at r1
  rw [r1]
  exact bind_step g1 rfl
 rw [List.drop_zero] at r1
 rw [r1,Option.bind_some]
 refine bind_step g1 ?_
 by_cases c1:0≤n1
 ·by_cases c2:n1≤3
  ·rw [if_pos ⟨c1,c2⟩]
   simp only [dT (show n1 ≥ 0 from c1),dT c2,decide_true,Bool.not_true,cond_false,cond_true]
   rcases dues_read s hs n1 0 0 0 false n1.toNat ((n1 - (0:Int)).toNat + 1) a1 0 (-1) [] l1 (by simp) (by omega) (by omega) (by omega) with ⟨h1,o,ho,h2⟩ | ⟨ds,a4,h1,h2,h3⟩
   ·have h2':f70_l4x n1 s 0 0 s 0 false ((n1 - (0:Int)).toNat + 1) (-1:Int) (0:Int) (a1:Int) [] = _:=h2
    rw [h1,Option.bind_none]
    refine bind_step h2' ?_
    show (bif o.2.2.1.1 then _ else _) = _
    rw [ho]
    rfl
   ·have h3':f70_l4x n1 s 0 0 s 0 false ((n1 - (0:Int)).toNat + 1) (-1:Int) (0:Int) (a1:Int) [] = _:=h3
    rw [List.nil_append] at h3'
    rw [h1,Option.bind_some]
    refine bind_step h3' ?_
    show Option.bind (f118 s (a4:Int)) _ = some (parsedH ((rdI ((nbytes s).drop a4)).bind _))
    rcases read_cases s hs a4 h2 with ⟨r2,g2⟩ | ⟨n2,a2,r2,g2,l2,q2⟩
    ·rw [r2,Option.bind_none]
     exact bind_step g2 rfl
    rw [r2,Option.bind_some]
    refine bind_step g2 ?_
    show (bif decide (n2 ≥ 0) then (bif !decide (n2 < 1099511627776) then _ else (bif decide ((a2:Int) = (s.size:Int)) then some (ds,n2,(0:Int),()) else _)) else _) = _
    have hend:decide ((a2:Int) = (s.size:Int)) = decide ((nbytes s).drop a2 = []):=by
     apply decide_eq_decide.2
     rw [List.drop_eq_nil_iff,nbytes_len]
     omega
    by_cases c3:0≤n2
    ·by_cases c4:n2 < 1099511627776
     ·rw [dT (show n2 ≥ 0 from c3),dT c4,hend]
      by_cases c5:(nbytes s).drop a2 = []
      ·rw [dT c5,if_pos ⟨c3,c4,c5⟩]; rfl
      ·rw [dF c5,if_neg (fun h=>c5 h.2.2)]; rfl
     ·rw [dT (show n2 ≥ 0 from c3),dF c4,if_neg (fun h=>c4 h.2.1)]
      exact bad false
    ·rw [dF (show ¬ n2 ≥ 0 from c3),if_neg (fun h=>c3 h.1)]
     exact bad false
  ·rw [if_neg (fun h=>c2 h.2)]
   simp only [dT (show n1 ≥ 0 from c1),dF c2,decide_true,Bool.not_true,Bool.not_false,cond_false,cond_true]
   rfl
 ·rw [if_neg (fun h=>c1 h.1)]
  simp only [dF (show ¬ n1 ≥ 0 from c1),decide_true,Bool.not_true,Bool.not_false,cond_false,cond_true]
  rfl
end Go.V.G
namespace Go.V.G
open Go.Proofs
end Go.V.G
namespace Go.V.G
open Go.Proofs
theorem pairwise_flatMap_range {α:Type} (f:Nat→List α) (k:α→Int) (h:∀ i x,x∈f i→k x = (i:Int)) (h1:∀ i,(f i).length≤1):∀ (n s:Nat),((List.range' s n).flatMap f).Pairwise (fun a b=>k a < k b)∧∀ x∈(List.range' s n).flatMap f,(s:Int)≤k x
 | 0,s=>by simp
 | n + 1,s=>by
  rw [List.range'_succ,List.flatMap_cons]
  obtain ⟨i1,i2⟩:=pairwise_flatMap_range f k h h1 n (s + 1)
  constructor
  ·refine List.pairwise_append.2 ⟨?_,i1,fun a ha b hb=>?_⟩
   ·have:=h1 s
    match hf:f s with
    | []=>exact List.Pairwise.nil
    | [a]=>exact List.pairwise_singleton _ _
    | a :: b :: l=>rw [hf] at this; simp at this
   ·have:=h s a ha
    have:=i2 b hb
    omega
  ·intro x hx
   rcases List.mem_append.1 hx with hx | hx
   ·rw [h s x hx]; omega
   ·have:=i2 x hx
    omega
end Go.V.G
namespace Go.V.G
open Go.Proofs
end Go.V.G
namespace Go.V.G
open Go.Proofs
abbrev MpE:=List (Int × Ed)
def mget (m:MpE) (k:Int):Option Ed:=bif mapHas tI tE m k then some (mapGet tI tE m k) else none
def mput (m:MpE) (e:Ed):MpE:=mapSet tI tE m e.1 e
theorem keyEq_int (a b:Int):keyEq tI a b = decide (a = b):=rfl
theorem mget_put:∀ (m:MpE) (e:Ed) (k:Int),mget (mput m e) k = if k = e.1 then some e else mget m k
 | [],e,k=>by
  unfold mget mput
  simp only [mapSet,mapHas,mapGet,keyEq_int]
  by_cases h:k = e.1
  ·rw [dT h,if_pos h]; rfl
  ·rw [dF h,if_neg h]; rfl
 | (j,u) :: m,e,k=>by
  have ih:=mget_put m e k
  unfold mget mput at ih ⊢
  simp only [mapSet,keyEq_int]
  by_cases h:e.1 = j
  ·rw [dT h,cond_true]
   simp only [mapHas,mapGet,keyEq_int]
   by_cases h1:k = e.1
   ·rw [dT h1,if_pos h1]; rfl
   ·rw [dF h1,if_neg h1,dF (by rw [← h]; exact h1)]; rfl
  ·rw [dF h,cond_false]
   simp only [mapHas,mapGet,keyEq_int]
   by_cases h2:k = j
   ·rw [dT h2,if_neg (by rw [h2]; exact fun h3=>h h3.symm)]; rfl
   ·rw [dF h2,cond_false,cond_false]
    exact ih
theorem put_loop (t0 t35:List En) (t36 t37:Int) (es:List Ed) (r56:List Vx) (hl:es.length≤1000) (k:Nat) (hk:es.length < k) (m:MpE) :
  f22_l13 t0 t35 t36 t37 es (es.length:Int) r56 k 0 m = some ((t0,t35,t36,t37,()),(),((),(),es.foldl mput m,r56,())):=by
 have hl:=fold_loop tE mput (fun k j acc=>f22_l13 t0 t35 t36 t37 es (es.length:Int) r56 k j acc) (fun r=>((t0,t35,t36,t37,()),(),((),(),r,r56,()))) (fun j acc=>True) es (by
  intro k j acc hI
  show f22_l13 t0 t35 t36 t37 es (es.length:Int) r56 (k + 1) (j:Int) acc = _
  conv=>lhs; unfold f22_l13
  by_cases hj:j < es.length
  ·have e1:decide ((j:Int) < (es.length:Int)) = true:=by simp; omega
   have hget:at_ tE es (j:Int) = es[j]:=atN tE es j hj
   rw [dif_pos hj]
   simp only [e1,cond_true,inRN,dT hj,wS j (by omega),hget]
   rfl
  ·have e1:decide ((j:Int) < (es.length:Int)) = false:=by simp; omega
   rw [dif_neg hj]
   simp only [e1,cond_false]) (fun _ _ _ _=>trivial)
 have h2:=hl es.length k 0 m (by omega) hk trivial
 rw [List.drop_zero] at h2
 exact h2
def joinG:List En→MpE→List Vx→Option (MpE × List Vx)
 | [],m,vs=>some (m,vs)
 | x :: l,m,vs=>(parse (nbytes x.2.1)).bind fun y=>joinG l (y.2.foldl mput m) (vs++[y.1])
def szOk (l:List En):Prop:=∀ x∈l,x.2.1.size≤1099511627776
theorem parse_len {bs:ByteArray} {v es} (h:parse (nbytes bs) = some (v,es)):es.length≤40:=(good_small ((parse_iff bs v es).1 h).good).1
theorem join_rows (t0 l:List En) (hs:szOk l):∀ (n k j:Nat) (m:MpE) (vs:List Vx),l.length - j≤n→n < k→vs.length≤j→j≤l.length→l.length≤1000 →
  (joinG (l.drop j) m vs = none∧f22_l6 k t0 l (l.length:Int) (j:Int) m vs = some (.inr ((60,()),(),((),())))) ∨
  ∃ m' vs',joinG (l.drop j) m vs = some (m',vs')∧vs'.length≤l.length∧f22_l6 k t0 l (l.length:Int) (j:Int) m vs = some (.inl ((t0,()),(),((),(),m',vs',()))):=by
 intro n
 induction n with
 | zero =>
  intro k j m vs h1 h2 h3 h4 h5
  obtain ⟨k,rfl⟩:∃ q,k = q + 1:=⟨k - 1,by omega⟩
  right
  rw [List.drop_of_length_le (by omega)]
  refine ⟨m,vs,rfl,by omega,?_⟩
  unfold f22_l6
  rw [dF (by omega)]
  rfl
 | succ n ih =>
  intro k j m vs h1 h2 h3 h4 h5
  obtain ⟨k,rfl⟩:∃ q,k = q + 1:=⟨k - 1,by omega⟩
  by_cases hj:j < l.length
  ·have hget:at_ tN l (j:Int) = l[j]:=atN tN l j hj
   have hp:=f25_eq l[j].2.1 (hs _ (List.getElem_mem hj))
   have hu:=f22_l6.eq_2 t0 l (l.length:Int) (j:Int) m vs k
   rw [dT (by omega)] at hu
   simp only [cond_true,inRN,dT hj,hget] at hu
   rw [List.drop_eq_getElem_cons hj]
   simp only [joinG]
   cases hq:parse (nbytes l[j].2.1) with
   | none =>
    rw [hq] at hp
    left
    exact ⟨rfl,hu.trans (bind_step hp rfl)⟩
   | some y =>
    obtain ⟨v,es⟩:=y
    rw [hq] at hp
    have hes:=parse_len hq
    simp only [Option.bind_some]
    have hs1:f22_l6 (k + 1) t0 l (l.length:Int) (j:Int) m vs = f22_l6 k t0 l (l.length:Int) ((j + 1:Nat):Int) (es.foldl mput m) (vs++[v]):=by
     refine hu.trans (bind_step hp ?_)
     show (bif decide ((0:Int) ≠ (0:Int)) then _ else (bif (decide (vs.length + ([v]:List Vx).length≤appLim)) then _ else none)) = _
     rw [dF (by simp),cond_false,appOk _ _ (by simp; omega),cond_true]
     refine bind_step (put_loop t0 l (l.length:Int) (j:Int) es (vs++[v]) (by omega) _ (by simp only [parsed]; omega) m) ?_
     show f22_l6 k t0 l (l.length:Int) (IntKind.wrap .i64 ((j:Int) + 1)) _ _ = _
     rw [wS j (by omega)]
    rcases ih k (j + 1) (es.foldl mput m) (vs++[v]) (by omega) (by omega) (by simp; omega) (by omega) h5 with ⟨a1,a2⟩ | ⟨m',vs',a1,a2,a3⟩
    ·exact .inl ⟨a1,hs1.trans a2⟩
    ·exact .inr ⟨m',vs',a1,a2,hs1.trans a3⟩
  ·right
   rw [List.drop_of_length_le (by omega)]
   refine ⟨m,vs,rfl,by omega,?_⟩
   unfold f22_l6
   rw [dF (by omega)]
   rfl
def eAt (m:MpE) (id:Nat):List Ed:=(mget m (id:Int)).toList
def edgesOf (m:MpE):List Ed:=(List.range' 0 40).flatMap (eAt m)
theorem take_edges (t0:List En) (m:MpE) (vs:List Vx):∀ (n k j:Nat) (acc:List Ed),40 - j≤n→n < k→j≤40→acc.length≤j →
  f22_l19 t0 m vs k (j:Int) acc = some ((t0,()),(),((),(),vs,acc++(List.range' j (40 - j)).flatMap (eAt m),())):=by
 intro n
 induction n with
 | zero =>
  intro k j acc h1 h2 h3 h4
  obtain ⟨k,rfl⟩:∃ q,k = q + 1:=⟨k - 1,by omega⟩
  unfold f22_l19
  rw [dF (by omega),show 40 - j = 0 by omega]
  simp <;> rfl
 | succ n ih =>
  intro k j acc h1 h2 h3 h4
  obtain ⟨k,rfl⟩:∃ q,k = q + 1:=⟨k - 1,by omega⟩
  by_cases hj:j < 40
  ·have hr:List.range' j (40 - j) = j :: List.range' (j + 1) (40 - (j + 1)):=by
    rw [show 40 - j = (40 - (j + 1)) + 1 by omega,List.range'_succ]
   unfold f22_l19
   rw [dT (by omega),cond_true,hr,List.flatMap_cons,← List.append_assoc]
   have he:eAt m j = (bif mapHas tI tE m (j:Int) then some (mapGet tI tE m (j:Int)) else none).toList:=rfl
   rw [he]
   show (bif mapHas tI tE m (j:Int) then _ else _) = _
   simp only [wS j (by omega)]
   cases hm:mapHas tI tE m (j:Int) with
   | true =>
    rw [cond_true,cond_true,appOk _ _ (by simp; omega),cond_true]
    exact ih k (j + 1) _ (by omega) (by omega) (by omega) (by simp; omega)
   | false =>
    rw [cond_false,cond_false,ih k (j + 1) _ (by omega) (by omega) (by omega) (by omega)]
    simp <;> rfl
  ·unfold f22_l19
   rw [dF (by omega),show 40 - j = 0 by omega]
   simp <;> rfl
theorem edgesOf_len (m:MpE):(edgesOf m).length≤40:=by
 unfold edgesOf
 rw [List.length_flatMap]
 have h1:∀ i,(eAt m i).length≤1:=fun i=>by unfold eAt; cases mget m (i:Int) <;> simp
 have:∀ (l:List Nat),(l.map fun a=>(eAt m a).length).sum≤l.length:=by
  intro l
  induction l with
  | nil=>simp
  | cons a l ih =>
   rw [List.map_cons,List.sum_cons,List.length_cons]
   have:=h1 a
   omega
 have h2:=this (List.range' 0 40)
 rw [List.length_range'] at h2
 exact h2
theorem same_loop {R:Type} (a b:List En) (n:Nat) (ha:a.length = n) (hb:b.length = n) (hn:n≤1000) (F:Nat→Int→Option R) (yes no:R)
  (hF:∀ k (j:Nat),F (k + 1) (j:Int) = if h:j < n then (if a[j]'(by omega) = b[j]'(by omega) then F k ((j + 1:Nat):Int) else some no) else some yes) (k:Nat) (hk:n < k) :
  F k 0 = some (if a = b then yes else no):=by
 rcases idx_loop n (fun j=>if h:j < n then decide (a[j]'(by omega) = b[j]'(by omega)) else true) F yes no (by
  intro k j
  rw [hF k j]
  by_cases h:j < n
  ·rw [dif_pos h,if_pos h]
   simp only [h,dite_true,decide_eq_true_eq]
  ·rw [dif_neg h,if_neg h]) n k 0 (by omega) hk with ⟨h1,h2⟩ | ⟨⟨i,_,h1,h2⟩,h3⟩
 ·rw [if_pos]
  ·exact h2
  ·refine List.ext_getElem (by omega) fun i h3 h4=>?_
   have:=h1 i (Nat.zero_le _) (by omega)
   simpa [show i < n by omega] using this
 ·rw [if_neg]
  ·exact h3
  ·intro e
   subst e
   simp [h1] at h2
theorem en_eq (x y:En):(decide (x.1 = y.1) && (decide (x.2.1 = y.2.1) && true)) = decide (x = y):=by
 obtain ⟨a,b,u⟩:=x
 obtain ⟨c,d,w⟩:=y
 rw [Bool.eq_iff_iff]
 simp [Prod.ext_iff]
theorem f56_eq (a b:List En) (ha:a.length≤1000):f56 a b = some (decide (a = b),()):=by
 unfold f56
 by_cases h:a.length = b.length
 ·rw [dF (by simp; omega),cond_false]
  have hs:=same_loop a b a.length rfl h.symm ha (fun k j=>f56_l4 a b (a.length:Int) k j) (.inl ((),(),())) (.inr ((false,()),(),())) (by
   intro k j
   show f56_l4 a b (a.length:Int) (k + 1) (j:Int) = _
   conv=>lhs; unfold f56_l4
   by_cases hj:j < a.length
   ·have g1:at_ tN a (j:Int) = a[j]:=atN tN a j hj
    have g2:at_ tN b (j:Int) = b[j]'(by omega):=atN tN b j (by omega)
    rw [dif_pos hj,dT (by omega)]
    simp only [cond_true,inRN,dT hj,dT (show j < b.length by omega),g1,g2,wS j (by omega),en_eq]
    by_cases he:a[j] = b[j]'(by omega)
    ·rw [dT he,if_pos he]; rfl
    ·rw [dF he,if_neg he]; rfl
   ·rw [dif_neg hj,dF (by omega)]; rfl) (((a.length:Int) - (0:Int)).toNat + 1) (by omega)
  by_cases e:a = b
  ·rw [dT e]; exact bind_step (hs.trans (congrArg some (if_pos e))) rfl
  ·rw [dF e]; exact bind_step (hs.trans (congrArg some (if_neg e))) rfl
 ·rw [dT (by simp; omega),cond_true,dF (fun e=>h (by rw [e]))]
def joinP (l:List En):Option Gr :=
 (joinG l.dropLast [] []).bind fun x=>(l.getLast?.bind fun y=>parseH (nbytes y.2.1)).bind fun y=>some (x.2,edgesOf x.1,y.1,())
def joined (l:List En) (o:Option Gr):Gr × Int × Unit :=
 match o with
 | none=>(([],[],[],()),60,())
 | some g=>if valid g = true∧entsG g.1 g.2.1 g.2.2.1 = l then (g,0,()) else (([],[],[],()),60,())
theorem parseH_len {bs:ByteArray} {ds n} (h:parseH (nbytes bs) = some (ds,n)):ds.length≤3:=((parseH_iff bs ds n).1 h).len
theorem ents_len {vs es ds} (h:Ok vs es ds):(entsG vs es ds).length≤25:=by
 unfold entsG
 have:=h.nv
 simp
 omega
theorem f22_eq (l:List En) (hs:szOk l) (h0:l ≠ []) (h1:l.length≤25):f22 l = some (joined l (joinP l)):=by
 have hl0:0 < l.length:=List.length_pos_iff.2 h0
 have w1:IntKind.wrap .i64 ((l.length:Int) - (1:Int)) = ((l.length - 1:Nat):Int):=by rw [wrap_i64 _ (by omega) (by omega)]; omega
 have ht:l.take (Int.toNat ((l.length - 1:Nat):Int)) = l.dropLast:=by rw [Int.toNat_natCast,List.dropLast_eq_take]
 unfold f22
 rw [dF (by omega),cond_false,dF (by omega)]
 simp only [cond_false,w1,ht]
 rw [cutHi' _ _ (by omega),cond_true]
 have hs':szOk l.dropLast:=fun x hx=>hs x (List.dropLast_subset l hx)
 have hdl:l.dropLast.length = l.length - 1:=List.length_dropLast
 unfold joinP
 rcases join_rows l l.dropLast hs' l.dropLast.length (((l.dropLast.length:Int) - (0:Int)).toNat + 1) 0 [] [] (by omega) (by omega) (by simp) (by omega) (by omega) with ⟨a1,a2⟩ | ⟨m',vs',a1,a2,a3⟩
 ·rw [List.drop_zero] at a1
  rw [a1]
  exact bind_step a2 rfl
 ·rw [List.drop_zero] at a1
  rw [a1,Option.bind_some]
  refine bind_step a3 ?_
  refine bind_step (take_edges l m' vs' 40 (((40:Int) - (0:Int)).toNat + 1) 0 [] (by omega) (by decide) (by omega) (by simp)) ?_
  rw [List.nil_append]
  have hge:at_ tN l ((l.length - 1:Nat):Int) = l[l.length - 1]:=atN tN l (l.length - 1) (by omega)
  have hlast:l.getLast? = some l[l.length - 1]:=by rw [List.getLast?_eq_getElem?,List.getElem?_eq_getElem]
  show (bif inR (IntKind.wrap .i64 ((l.length:Int) - (1:Int))) l.length then (f27 (at_ tN l (IntKind.wrap .i64 ((l.length:Int) - (1:Int)))).2.1).bind _ else none) = _
  rw [w1,inRN,dT (by omega),cond_true,hge,hlast,Option.bind_some]
  have hp:=f27_eq l[l.length - 1].2.1 (hs _ (List.getElem_mem _))
  refine bind_step hp ?_
  cases hq:parseH (nbytes l[l.length - 1].2.1) with
  | none=>rfl
  | some y =>
   obtain ⟨ds,n⟩:=y
   have hd:=parseH_len hq
   show (f13 (vs',edgesOf m',ds,())).bind _ = _
   have he:=edgesOf_len m'
   have h13:=entries_all_p vs' (edgesOf m') ds (by omega) (by omega) (by omega)
   show _ = some (joined l (some (vs',edgesOf m',ds,())))
   unfold joined
   refine bind_step h13 ?_
   by_cases hv:valid (vs',edgesOf m',ds,()) = true
   ·rw [if_pos hv]
    have hok:=ok_of _ _ _ hv
    refine bind_step (f56_eq (entsG vs' (edgesOf m') ds) l (by have:=ents_len hok; omega)) ?_
    by_cases e:entsG vs' (edgesOf m') ds = l
    ·simp only [dT e]
     rw [if_pos ⟨hv,e⟩]
     rfl
    ·simp only [dF e]
     rw [if_neg (fun h=>e h.2)]
     rfl
   ·rw [if_neg hv]
    simp only
    rw [if_neg (fun h=>hv h.1)]
    rfl
end Go.V.G
namespace Go.V.G
open Go.Proofs
end Go.V.G
namespace Go.V.G
open Go.Proofs
theorem good_of {vs es ds} (h:Ok vs es ds) {v:Vx} (hv:v∈vs):good v (atE es v.1) = true:=by
 unfold good
 simp only [Bool.and_eq_true,List.all_eq_true]
 refine ⟨⟨?_,?_⟩,fun e he=>?_⟩
 ·have:=h.okv v hv
  unfold okV
  simp only [Bool.and_eq_true,decide_eq_true_eq]
  omega
 ·exact (asc_pairwise kE).2 (((asc_pairwise kE).1 h.ae).filter _)
 ·obtain ⟨h1,h2⟩:=List.mem_filter.1 he
  exact ⟨h.oke e h1,h2⟩
theorem parse_row {vs es ds} (h:Ok vs es ds) {v:Vx} (hv:v∈vs):parse (nbytes (rowV es v).2.1) = some (v,atE es v.1) :=
 (parse_iff _ _ _).2 ⟨rfl,good_of h hv⟩
theorem parseH_head {vs es ds} (h:Ok vs es ds):parseH (nbytes (encs (headN es ds))) = some (ds,(bitsE es:Int)):=by
 have hb:=bits_small h
 refine (parseH_iff _ _ _).2 ⟨?_,h.dl,h.ad,h.did,by omega,by omega⟩
 rfl
theorem joinG_rows {vs es ds} (h:Ok vs es ds):∀ (l acc:List Vx) (m:MpE),(∀ v∈l,v∈vs)→joinG (l.map (rowV es)) m acc = some ((l.flatMap fun v=>atE es v.1).foldl mput m,acc++l)
 | [],acc,m,_=>by simp [joinG]
 | v :: l,acc,m,hl=>by
  rw [List.map_cons]
  simp only [joinG]
  rw [parse_row h (hl v (List.mem_cons_self ..)),Option.bind_some]
  simp only
  rw [joinG_rows h l (acc++[v]) _ (fun x hx=>hl x (List.mem_cons_of_mem _ hx)),List.flatMap_cons,List.foldl_append,List.append_assoc]
  rfl
theorem all_at {vs es ds} (h:Ok vs es ds) (e:Ed):e∈(vs.flatMap fun v=>atE es v.1) ↔ e∈es:=by
 rw [List.mem_flatMap]
 constructor
 ·rintro ⟨v,_,h1⟩
  exact (List.mem_filter.1 h1).1
 ·intro he
  have h1:=h.hs e he
  unfold hasV at h1
  obtain ⟨v,hv,h2⟩:=List.any_eq_true.1 h1
  simp only [decide_eq_true_eq] at h2
  exact ⟨v,hv,List.mem_filter.2 ⟨he,by simp [h2]⟩⟩
theorem id_inj {es:List Ed} (h:asc kE es = true):∀ {a b:Ed},a∈es→b∈es→a.1 = b.1→a = b:=by
 have hp:=(asc_pairwise kE).1 h
 clear h
 induction es with
 | nil=>intro a b ha; simp at ha
 | cons x l ih =>
  obtain ⟨h1,h2⟩:=List.pairwise_cons.1 hp
  intro a b ha hb hab
  rcases List.mem_cons.1 ha with ha1 | ha1 <;> rcases List.mem_cons.1 hb with hb1 | hb1
  ·rw [ha1,hb1]
  ·have:x.1 < b.1:=h1 b hb1
   rw [ha1] at hab
   omega
  ·have:x.1 < a.1:=h1 a ha1
   rw [hb1] at hab
   omega
  ·exact ih h2 ha1 hb1 hab
theorem puts_spec {es:List Ed} (ha:asc kE es = true):∀ (l:List Ed) (m:MpE),(∀ e∈l,e∈es)→(∀ k e,mget m k = some e→e∈es∧e.1 = k) →
  (∀ k e,mget (l.foldl mput m) k = some e→e∈es∧e.1 = k)∧(∀ e∈l,mget (l.foldl mput m) e.1 = some e)∧(∀ k e,mget m k = some e→mget (l.foldl mput m) k = some e)
 | [],m,_,hm=>⟨hm,fun e he=>by simp at he,fun k e h=>h⟩
 | x :: l,m,hl,hm=>by
  have hx:=hl x (List.mem_cons_self ..)
  have hm':∀ k e,mget (mput m x) k = some e→e∈es∧e.1 = k:=by
   intro k e h
   rw [mget_put] at h
   split at h
   ·rename_i hk
    cases h
    exact ⟨hx,hk.symm⟩
   ·exact hm k e h
  obtain ⟨h1,h2,h3⟩:=puts_spec ha l (mput m x) (fun e he=>hl e (List.mem_cons_of_mem _ he)) hm'
  refine ⟨h1,fun e he=>?_,fun k e hk=>?_⟩
  ·rcases List.mem_cons.1 he with rfl | he
   ·exact h3 e.1 e (by rw [mget_put,if_pos rfl])
   ·exact h2 e he
  ·refine h3 k e ?_
   rw [mget_put]
   split
   ·rename_i hkx
    obtain ⟨h4,h5⟩:=hm k e hk
    rw [id_inj ha hx h4 (by omega)]
   ·exact hk
theorem eAt_key {es:List Ed} {m:MpE} (h:∀ k e,mget m k = some e→e∈es∧e.1 = k) (i:Nat) (x:Ed) (hx:x∈eAt m i):kE x = (i:Int):=by
 unfold eAt at hx
 rw [Option.mem_toList] at hx
 exact (h _ _ hx).2
theorem edgesOf_eq {vs es ds} (h:Ok vs es ds):edgesOf ((vs.flatMap fun v=>atE es v.1).foldl mput []) = es:=by
 obtain ⟨h1,h2,_⟩:=puts_spec h.ae (vs.flatMap fun v=>atE es v.1) [] (fun e he=>(all_at h e).1 he) (fun k e hk=>by cases hk)
 refine asc_ext kE _ _ ?_ ((asc_pairwise kE).1 h.ae) fun x=>⟨fun hx=>?_,fun hx=>?_⟩
 ·exact (pairwise_flatMap_range (eAt _) kE (eAt_key h1) (fun i=>by unfold eAt; cases mget _ (i:Int) <;> simp) 40 0).1
 ·unfold edgesOf at hx
  obtain ⟨i,_,h3⟩:=List.mem_flatMap.1 hx
  unfold eAt at h3
  rw [Option.mem_toList] at h3
  exact (h1 _ _ h3).1
 ·have h3:=h2 x ((all_at h x).2 hx)
  have h4:=h.eid x hx
  refine List.mem_flatMap.2 ⟨x.1.toNat,by rw [List.mem_range'_1]; omega,?_⟩
  unfold eAt
  rw [Option.mem_toList,show ((x.1.toNat:Nat):Int) = x.1 by omega]
  exact h3
theorem joinP_ents {vs es ds} (h:Ok vs es ds):joinP (entsG vs es ds) = some (vs,es,ds,()):=by
 unfold joinP entsG
 rw [List.dropLast_concat,List.getLast?_concat,joinG_rows h vs [] [] (fun v hv=>hv),Option.bind_some,Option.bind_some]
 simp only
 rw [parseH_head h,Option.bind_some]
 simp only
 rw [edgesOf_eq h,List.nil_append]
theorem joined_yes {vs es ds} (hv:valid (vs,es,ds,()) = true):joined (entsG vs es ds) (some (vs,es,ds,())) = ((vs,es,ds,()),0,()):=by
 unfold joined
 exact if_pos ⟨hv,rfl⟩
theorem ents_ne (vs es ds):entsG vs es ds ≠ []:=by unfold entsG; simp
theorem ents_szOk {vs es ds} (h:Ok vs es ds):szOk (entsG vs es ds):=fun x hx=>by
 have:=((ents_valid h).val x hx).2
 omega
theorem join_yes {vs es ds} (hv:valid (vs,es,ds,()) = true):f22 (entsG vs es ds) = some ((vs,es,ds,()),0,()):=by
 have h:=ok_of _ _ _ hv
 rw [f22_eq _ (ents_szOk h) (ents_ne _ _ _) (ents_len h),joinP_ents h,joined_yes hv]
end Go.V.G
namespace Go.V.G
open Go.Proofs
theorem ends_loopF (es:List Ed) (id:Int) (h:es.length≤1000) (k:Nat) (hk:es.length < k):f31_l2 es (es.length:Int) id k 0 [] = some ((),(),((id,()),(atE es id).map (farE id),())):=by
 have hl:=fold_loop tE (fun (acc:List Int) (e:Ed)=>if isAt id e = true then acc++[farE id e] else acc) (fun k j acc=>f31_l2 es (es.length:Int) id k j acc) (fun r=>((),(),((id,()),r,()))) (fun j acc=>acc.length≤j) es (by
  intro k j acc hI
  show f31_l2 es (es.length:Int) id (k + 1) (j:Int) acc = _
  conv=>lhs; unfold f31_l2
  by_cases hj:j < es.length
  ·have e1:decide ((j:Int) < (es.length:Int)) = true:=by simp; omega
   have hget:at_ tE es (j:Int) = es[j]:=atN tE es j hj
   have hap:∀ n:Int,decide (acc.length + ([n]:List Int).length≤appLim) = true:=fun e=>appOk _ _ (by simp; omega)
   rw [dif_pos hj]
   simp only [e1,cond_true,inRN,dT hj,wS j (by omega),hget,f64_eq,Option.bind_some,hap]
   unfold isAt
   by_cases h1:es[j].2.1 = id
   ·simp [h1]
   ·by_cases h2:es[j].2.2.1 = id
    ·simp [h1,h2]
    ·simp [h1,h2]
  ·have e1:decide ((j:Int) < (es.length:Int)) = false:=by simp; omega
   rw [dif_neg hj]
   simp only [e1,cond_false]) (by
  intro j acc hj hI
  show (if isAt id es[j] = true then acc++[farE id es[j]] else acc).length≤j + 1
  split
  ·simp; omega
  ·omega)
 have h2:=hl es.length k 0 [] (by omega) hk (by simp)
 rw [List.drop_zero,fold_far] at h2
 exact h2
theorem comp_loopF (orig:List Int) (o n:Nat) (id:Int) (ho:o + n = orig.length) (hl:orig.length≤1000):∀ (m k t w:Nat) (r:List Int),n - t≤m→m < k→1≤t→t≤n→r.length = orig.length→r.drop (o + t - 1) = orig.drop (o + t - 1)→r.take w = comp (orig.take (o + t))→w≤o + t - 1 →
  ∃ (w':Nat) (r':List Int),f73_l9x (o,n) id k (w:Int) (t:Int) r = some (((w':Int),()),((),()),(r',(id,()),()))∧r'.length = orig.length∧w'≤orig.length∧r'.take w' = comp orig:=by
 intro m
 induction m with
 | zero =>
  intro k t w r h1 h2 h3 h4 h5 h6 h7 h8
  obtain ⟨k,rfl⟩:∃ q,k = q + 1:=⟨k - 1,by omega⟩
  have hlen:((r.drop o).take n).length = n:=by rw [List.length_take,List.length_drop]; omega
  refine ⟨w,r,?_,h5,by omega,?_⟩
  ·unfold f73_l9x
   simp only [hlen]
   rw [dF (by omega)]
   rfl
  ·rw [h7,show o + t = orig.length by omega,List.take_length]
 | succ m ih =>
  intro k t w r h1 h2 h3 h4 h5 h6 h7 h8
  obtain ⟨k,rfl⟩:∃ q,k = q + 1:=⟨k - 1,by omega⟩
  have hlen:((r.drop o).take n).length = n:=by rw [List.length_take,List.length_drop]; omega
  by_cases ht:t < n
  ·obtain ⟨t,rfl⟩:∃ q,t = q + 1:=⟨t - 1,by omega⟩
   have hlt:o + t + 1 < orig.length:=by omega
   have g1:=get_drop h6 h5 (i:=o + t) (by omega) (by omega)
   have g2:=get_drop h6 h5 (i:=o + t + 1) (by omega) hlt
   have w1:IntKind.wrap .i64 (((t + 1:Nat):Int) - (1:Int)) = (t:Int):=by rw [wrap_i64 _ (by omega) (by omega)]; omega
   have a1:at_ tI r ((o:Int) + (t:Int)) = orig[o + t]'(by omega):=by
    rw [show (o:Int) + (t:Int) = ((o + t:Nat):Int) by omega]
    exact (atN tI r (o + t) (by omega)).trans g1
   have a2:at_ tI r ((o:Int) + ((t + 1:Nat):Int)) = orig[o + t + 1]:=by
    rw [show (o:Int) + ((t + 1:Nat):Int) = ((o + t + 1:Nat):Int) by omega]
    exact (atN tI r (o + t + 1) (by omega)).trans g2
   have ct:=comp_take orig (o + t) hlt
   have d1:r.drop (o + (t + 1 + 1) - 1) = orig.drop (o + (t + 1 + 1) - 1):=by
    have:=congrArg (List.drop 1) h6
    rw [List.drop_drop,List.drop_drop] at this
    rw [show o + (t + 1 + 1) - 1 = o + (t + 1) - 1 + 1 by omega]
    exact this
   conv=>enter [1,w',1,r',1,1]; unfold f73_l9x
   simp only [hlen,dT (show ((t + 1:Nat):Int) < (n:Int) by omega),cond_true,w1,a1,a2,inRN,dT (show t + 1 < n by omega),dT (show t < n by omega),wS (t + 1) (by omega)]
   by_cases he:orig[o + t + 1] = orig[o + t]'(by omega)
   ·rw [if_pos he] at ct
    obtain ⟨w',r',q1,q2⟩:=ih k (t + 1 + 1) w r (by omega) (by omega) (by omega) (by omega) h5 d1 (by rw [h7]; exact ct.symm) (by omega)
    refine ⟨w',r',?_,q2⟩
    simp only [he,ne_eq,not_true_eq_false,decide_false,cond_false]
    exact q1
   ·rw [if_neg he] at ct
    have hw:w < r.length:=by omega
    obtain ⟨w',r',q1,q2⟩:=ih k (t + 1 + 1) (w + 1) (r.set w (orig[o + t + 1])) (by omega) (by omega) (by omega) (by omega) (by rw [List.length_set]; exact h5) (by rw [List.drop_set_of_lt (by omega)]; exact d1) (by
     rw [List.take_succ_eq_append_getElem (by rw [List.length_set]; exact hw),List.take_set_of_le (by omega),List.getElem_set_self,h7]
     exact ct.symm) (by omega)
    refine ⟨w',r',?_,q2⟩
    simp only [he,ne_eq,not_false_eq_true,decide_true,cond_true,dT hw,wS w (by omega),Int.toNat_natCast]
    exact q1
  ·refine ⟨w,r,?_,h5,by omega,?_⟩
   ·unfold f73_l9x
    simp only [hlen]
    rw [dF (by omega)]
    rfl
   ·rw [h7,show o + t = orig.length by omega,List.take_length]
theorem comp_firstF (id:Int) (r:List Int) (hl:r.length≤1000):∀ (m k j:Nat),r.length - j≤m→m < k→1≤j→j≤r.length→comp (r.take j) = r.take j →
  (f73_l4x r id k (j:Int) = some (.inl ((),((),()),(r,(id,()),())))∧comp r = r) ∨
  ∃ (w:Nat) (r':List Int),f73_l4x r id k (j:Int) = some (.inr ((w,()),((),()),(r',(id,()),())))∧r'.length = r.length∧w≤r.length∧r'.take w = comp r:=by
 intro m
 induction m with
 | zero =>
  intro k j h1 h2 h3 h4 h5
  obtain ⟨k,rfl⟩:∃ q,k = q + 1:=⟨k - 1,by omega⟩
  left
  have hj:j = r.length:=by omega
  subst hj
  rw [List.take_length] at h5
  refine ⟨?_,h5⟩
  unfold f73_l4x
  rw [dF (by omega)]
  rfl
 | succ m ih =>
  intro k j h1 h2 h3 h4 h5
  obtain ⟨k,rfl⟩:∃ q,k = q + 1:=⟨k - 1,by omega⟩
  by_cases hj:j < r.length
  ·obtain ⟨i,rfl⟩:∃ q,j = q + 1:=⟨j - 1,by omega⟩
   have w1:IntKind.wrap .i64 (((i + 1:Nat):Int) - (1:Int)) = (i:Int):=by rw [wrap_i64 _ (by omega) (by omega)]; omega
   have a1:at_ tI r (i:Int) = r[i]'(by omega):=atN tI r i (by omega)
   have a2:at_ tI r ((i + 1:Nat):Int) = r[i + 1]:=atN tI r (i + 1) hj
   have ct:=comp_take r i hj
   unfold f73_l4x
   simp only [dT (show ((i + 1:Nat):Int) < (r.length:Int) by omega),cond_true,w1,a1,a2,inRN,dT hj,dT (show i < r.length by omega),wS (i + 1) (by omega)]
   by_cases he:r[i + 1] = r[i]'(by omega)
   ·right
    rw [if_pos he] at ct
    obtain ⟨w,r',q1,q2,q3,q4⟩:=comp_loopF r (i + 1) (r.length - (i + 1)) id (by omega) hl (r.length - (i + 1) - 1) (r.length - (i + 1) + 1) 1 (i + 1) r (by omega) (by omega) (by omega) (by omega) rfl rfl (by rw [show i + 1 + 1 = i + 2 by omega,ct,h5]) (by omega)
    refine ⟨w,setRange r' w (List.replicate (r'.length - w) (0:Int)),?_,?_,q3,?_⟩
    ·simp only [he,decide_true,cond_true,cutLo r.length (i + 1) (by omega),cutLenLo,Int.toNat_natCast]
     have q1':f73_l9x (i + 1,r.length - (i + 1)) id (r.length - (i + 1) + 1) ((i + 1:Nat):Int) 1 r = _:=q1
     refine bind_step q1' ?_
     show (bif cutOk r'.length (some (w:Int)) none then bif (cutOk (setRange r' (Int.toNat (w:Int)) (List.replicate (cutLen r'.length (some (w:Int)) none) (0:Int))).length none (some (w:Int))) then (some (.inr (((cutLen (setRange r' (Int.toNat (w:Int)) (List.replicate (cutLen r'.length (some (w:Int)) none) (0:Int))).length none (some (w:Int))),()),((),()),((setRange r' (Int.toNat (w:Int)) (List.replicate (cutLen r'.length (some (w:Int)) none) (0:Int))),(id,()),()))):Option (outDen f73_l4x_outs)) else none else none) = _
     simp only [cutLo r'.length w (by omega),cond_true,Int.toNat_natCast,cutLenLo]
     rw [cutHi' _ w (by rw [setRange_len _ _ _ (by rw [List.length_replicate]; omega)]; omega),cutLenHi]
     rfl
    ·rw [setRange_len _ _ _ (by rw [List.length_replicate]; omega),q2]
    ·rw [setRange_take _ _ _ (by omega),q4]
   ·rw [if_neg he] at ct
    have ct':comp (r.take (i + 1 + 1)) = r.take (i + 1 + 1):=by
     rw [show i + 1 + 1 = i + 2 by omega,ct,h5,List.take_succ_eq_append_getElem (show i + 1 < r.length from hj)]
    simp only [he,decide_false,cond_false]
    exact ih k (i + 1 + 1) (by omega) (by omega) (by omega) (by omega) ct'
  ·left
   have hj:j = r.length:=by omega
   subst hj
   rw [List.take_length] at h5
   refine ⟨?_,h5⟩
   unfold f73_l4x
   rw [dF (by omega)]
   rfl
theorem idx_ofF (n k1:Nat) (r:List Int) (id:Int) (hn:n≤r.length) (hl:r.length≤1000):∀ (m k j:Nat),n - j≤m→m < k→j≤n→id ∉ r.take j →
  (f125_l2y n (n:Int) n k1 r id k (j:Int) = some (.inl ((),((n,()),(k1,()),()),(r,(id,()),())))∧id ∉ r.take n) ∨
  ∃ (i:Nat) (h:i < r.length),f125_l2y n (n:Int) n k1 r id k (j:Int) = some (.inr (((i:Int),()),((n,()),(k1,()),()),(r,(id,()),())))∧i < n∧id ∉ r.take i∧r[i] = id:=by
 intro m
 induction m with
 | zero =>
  intro k j h1 h2 h3 h4
  obtain ⟨k,rfl⟩:∃ q,k = q + 1:=⟨k - 1,by omega⟩
  left
  have hj:j = n:=by omega
  subst hj
  refine ⟨?_,h4⟩
  unfold f125_l2y
  rw [dF (by omega)]
  rfl
 | succ m ih =>
  intro k j h1 h2 h3 h4
  obtain ⟨k,rfl⟩:∃ q,k = q + 1:=⟨k - 1,by omega⟩
  by_cases hj:j < n
  ·have hr:j < r.length:=by omega
   have a1:at_ tI r (0 + (j:Int)) = r[j]:=by rw [Int.zero_add]; exact atN tI r j hr
   unfold f125_l2y
   simp only [dT (show (j:Int) < (n:Int) by omega),cond_true,inRN,dT hj,a1,wS j (by omega)]
   by_cases he:r[j] = id
   ·right
    refine ⟨j,hr,?_,hj,h4,he⟩
    rw [dT he,cond_true]
   ·rw [dF he,cond_false]
    refine ih k (j + 1) (by omega) (by omega) (by omega) ?_
    rw [List.take_succ_eq_append_getElem hr,List.mem_append]
    rintro (h | h)
    ·exact h4 h
    ·exact he (List.mem_singleton.1 h).symm
  ·left
   have hj:j = n:=by omega
   subst hj
   refine ⟨?_,h4⟩
   unfold f125_l2y
   rw [dF (by omega)]
   rfl
theorem del_loopF (n k1:Nat) (orig:List Int) (id:Int) (hn:n≤orig.length) (hl:orig.length≤1000):∀ (m k t w:Nat) (r:List Int),n - t≤m→m < k→t≤n→r.length = orig.length→r.drop t = orig.drop t→r.take w = (orig.take t).filter (fun x=>!decide (x = id))→w≤t →
  ∃ (w':Nat) (r':List Int),f72_l5x n k1 id k (w:Int) (t:Int) r = some ((n,(w':Int),()),((k1,()),()),(r',()))∧r'.length = orig.length∧w'≤n∧r'.take w' = (orig.take n).filter (fun x=>!decide (x = id)):=by
 intro m
 induction m with
 | zero =>
  intro k t w r h1 h2 h3 h4 h5 h6 h7
  obtain ⟨k,rfl⟩:∃ q,k = q + 1:=⟨k - 1,by omega⟩
  have ht:t = n:=by omega
  subst ht
  have hlen:((r.drop 0).take t).length = t:=by rw [List.length_take,List.length_drop]; omega
  refine ⟨w,r,?_,h4,h7,h6⟩
  unfold f72_l5x
  simp only [hlen]
  rw [dF (by omega)]
  rfl
 | succ m ih =>
  intro k t w r h1 h2 h3 h4 h5 h6 h7
  obtain ⟨k,rfl⟩:∃ q,k = q + 1:=⟨k - 1,by omega⟩
  have hlen:((r.drop 0).take n).length = n:=by rw [List.length_take,List.length_drop]; omega
  by_cases ht:t < n
  ·have hto:t < orig.length:=by omega
   have g:=get_drop h5 h4 (Nat.le_refl t) hto
   have a1:at_ tI r (t:Int) = orig[t]:=(atN tI r t (by omega)).trans g
   have d1:r.drop (t + 1) = orig.drop (t + 1):=by
    have:=congrArg (List.drop 1) h5
    rwa [List.drop_drop,List.drop_drop] at this
   have ft:(orig.take (t + 1)).filter (fun x=>!decide (x = id)) = (orig.take t).filter (fun x=>!decide (x = id))++(if orig[t] = id then [] else [orig[t]]):=by
    rw [List.take_succ_eq_append_getElem hto,List.filter_append]
    congr 1
    by_cases he:orig[t] = id <;> simp [he]
   conv=>enter [1,w',1,r',1,1]; unfold f72_l5x
   simp only [hlen,dT (show (t:Int) < (n:Int) by omega),cond_true,inRN,dT ht,a1,wS t (by omega),wS w (by omega),dT (show w < n by omega),Int.zero_add,Int.toNat_natCast]
   by_cases he:orig[t] = id
   ·rw [if_pos he,List.append_nil] at ft
    simp only [he,decide_true,Bool.not_true,cond_false]
    exact ih k (t + 1) w r (by omega) (by omega) (by omega) h4 d1 (by rw [h6,ft]) (by omega)
   ·rw [if_neg he] at ft
    simp only [dF he,Bool.not_false,cond_true]
    refine ih k (t + 1) (w + 1) (r.set w orig[t]) (by omega) (by omega) (by omega) (by rw [List.length_set]; exact h4) (by rw [List.drop_set_of_lt (by omega)]; exact d1) ?_ (by omega)
    rw [List.take_succ_eq_append_getElem (by rw [List.length_set]; omega),List.take_set_of_le (by omega),List.getElem_set_self,h6,ft]
  ·have ht:t = n:=by omega
   subst ht
   refine ⟨w,r,?_,h4,h7,h6⟩
   unfold f72_l5x
   simp only [hlen]
   rw [dF (by omega)]
   rfl
def delTF (n k1:Nat) (r:List Int) (id:Int):Option (List Int) :=
 (f125_l2y n (n:Int) n k1 r id (((n:Int) - (0:Int)).toNat + 1) (0:Int)).bind fun o10 =>
  Sum.elim (fun o11 =>
   let u13:Nat:=o11.2.1.1.1
   let u15:(List Int):=o11.2.2.1
   some ((u15.drop 0).take u13)) (fun o12 =>
   let u17:Int:=o12.1.1
   let u18:Nat:=o12.2.1.1.1
   let u19:Nat:=o12.2.1.2.1.1
   let u20:(List Int):=o12.2.2.1
   let u21:Int:=o12.2.2.2.1.1
   bif (decide (u17 = (-1:Int))) then
    some ((u20.drop 0).take u18)
   else
    (f72_l5x u18 u19 u21 (((((u20.drop 0).take u18).length:Int) - (IntKind.wrap .i64 (u17 + (1:Int)))).toNat + 1) u17 (IntKind.wrap .i64 (u17 + (1:Int))) u20).bind fun o24 =>
    let u25:Nat:=o24.1.1
    let u26:Int:=o24.1.2.1
    let u28:(List Int):=o24.2.2.1
    bif (cutOk u25 (some u26) none) then bif (cutOk u25 none (some u26)) then some (((setRange u28 (0 + (Int.toNat u26)) (List.replicate (cutLen u25 (some u26) none) (0:Int))).drop 0).take (cutLen u25 none (some u26))) else none else none) o10
theorem delT_eqF (n k1:Nat) (r:List Int) (id:Int) (hn:n≤r.length) (hl:r.length≤1000):delTF n k1 r id = some ((r.take n).filter (fun x=>!decide (x = id))):=by
 unfold delTF
 rcases idx_ofF n k1 r id hn hl n (((n:Int) - (0:Int)).toNat + 1) 0 (by omega) (by omega) (by omega) (by simp) with ⟨h1,h2⟩ | ⟨i,hi,h1,h2,h3,h4⟩
 ·have h1':f125_l2y n (n:Int) n k1 r id (((n:Int) - (0:Int)).toNat + 1) (0:Int) = _:=h1
  refine bind_step h1' ?_
  show some ((r.drop 0).take n) = _
  rw [List.drop_zero,notIn_filter id _ h2]
 ·have h1':f125_l2y n (n:Int) n k1 r id (((n:Int) - (0:Int)).toNat + 1) (0:Int) = _:=h1
  refine bind_step h1' ?_
  have hlen:((r.drop 0).take n).length = n:=by rw [List.length_take,List.length_drop]; omega
  have f0:(r.take (i + 1)).filter (fun x=>!decide (x = id)) = r.take i:=by
   rw [List.take_succ_eq_append_getElem hi,List.filter_append,notIn_filter id _ h3,h4]
   simp
  obtain ⟨w',r',q1,q2,q3,q4⟩:=del_loopF n k1 r id hn hl (n - (i + 1)) (((n:Int) - ((i + 1:Nat):Int)).toNat + 1) (i + 1) i r (by omega) (by omega) (by omega) rfl rfl (by rw [f0]) (by omega)
  show (bif (decide ((i:Int) = (-1:Int))) then some ((r.drop 0).take n) else
    (f72_l5x n k1 id (((((r.drop 0).take n).length:Int) - (IntKind.wrap .i64 ((i:Int) + (1:Int)))).toNat + 1) (i:Int) (IntKind.wrap .i64 ((i:Int) + (1:Int))) r).bind fun o24 =>
    bif (cutOk o24.1.1 (some o24.1.2.1) none) then bif (cutOk o24.1.1 none (some o24.1.2.1)) then some ((((setRange o24.2.2.1 (0 + (Int.toNat o24.1.2.1)) (List.replicate (cutLen o24.1.1 (some o24.1.2.1) none) (0:Int))).drop 0).take (cutLen o24.1.1 none (some o24.1.2.1))) ) else none else none) = _
  rw [dF (by omega),cond_false,hlen,wS i (by omega)]
  refine bind_step q1 ?_
  show (bif (cutOk n (some (w':Int)) none) then bif (cutOk n none (some (w':Int))) then some ((((setRange r' (0 + (Int.toNat (w':Int))) (List.replicate (cutLen n (some (w':Int)) none) (0:Int))).drop 0).take (cutLen n none (some (w':Int)))) ) else none else none) = _
  simp only [cutLo n w' q3,cutHi' n w' q3,cond_true,cutLenLo,cutLenHi,Int.toNat_natCast,Nat.zero_add,List.drop_zero]
  rw [setRange_take _ _ _ (by omega),q4]
theorem f31_eq (id:Int) (es:List Ed) (h:es.length≤1000):f31 id es = some (nb id es):=by
 have hlen:(((atE es id).map (farE id)).mergeSort fun x y=>decide (x≤y)).length≤1000:=by
  rw [List.length_mergeSort,List.length_map]
  exact Nat.le_trans (atE_len es id) h
 have hs:sortInts ((atE es id).map (farE id)) = some (((atE es id).map (farE id)).mergeSort fun x y=>decide (x≤y)):=by
  unfold sortInts
  rw [dT (by have:=atE_len es id; rw [List.length_map]; omega),cond_true]
 unfold f31
 refine bind_step (ends_loopF es id h _ (by omega)) ?_
 refine bind_step hs ?_
 show _ = some ((comp (((atE es id).map (farE id)).mergeSort fun x y=>decide (x≤y))).filter (fun x=>!decide (x = id)))
 generalize (((atE es id).map (farE id)).mergeSort fun x y=>decide (x≤y)) = y at hlen ⊢
 by_cases hy:y.length < 2
 ·rw [dT (by omega),cond_true]
  have:=delT_eqF y.length y.length y id (Nat.le_refl _) hlen
  rw [List.take_length] at this
  rw [comp_short y hy]
  exact this
 ·rw [dF (by omega),cond_false]
  rcases comp_firstF id y hlen (y.length - 1) (((y.length:Int) - (1:Int)).toNat + 1) 1 (by omega) (by omega) (by omega) (by omega) (comp_short _ (by rw [List.length_take]; omega)) with ⟨h1,h2⟩ | ⟨w,r',h1,h2,h3,h4⟩
  ·refine bind_step h1 ?_
   have:=delT_eqF y.length y.length y id (Nat.le_refl _) hlen
   rw [List.take_length] at this
   rw [h2]
   exact this
  ·refine bind_step h1 ?_
   have:=delT_eqF w r'.length r' id (by omega) (by omega)
   rw [h4] at this
   have hw:((r'.drop 0).take w).length = w:=by rw [List.length_take,List.length_drop]; omega
   show (f125_l2y w (((r'.drop 0).take w).length:Int) w r'.length r' id (((((r'.drop 0).take w).length:Int) - (0:Int)).toNat + 1) (0:Int)).bind _ = _
   rw [hw]
   exact this
end Go.V.G
namespace Go.V.G
open Go.Proofs
section
variable {R:Type}
theorem find_loop2 (T:Ty) (ok:T.den→Bool) (F:Nat→Int→Option R) (yes:R) (no:Nat→R) (l:List T.den)
  (hF:∀ k (j:Nat),F (k + 1) (j:Int) = if h:j < l.length then (if ok l[j] = true then F k ((j + 1:Nat):Int) else some (no j)) else some yes) :
  ∀ (m k j:Nat),l.length - j≤m→m < k→((l.drop j).all ok = true∧F k (j:Int) = some yes) ∨ ((l.drop j).all ok = false∧∃ (i:Nat) (h:i < l.length),j≤i∧ok l[i] = false∧F k (j:Int) = some (no i)):=by
 intro m
 induction m with
 | zero =>
  intro k j h1 h2
  obtain ⟨k,rfl⟩:∃ q,k = q + 1:=⟨k - 1,by omega⟩
  rw [hF k j,dif_neg (by omega),List.drop_of_length_le (by omega)]
  exact .inl ⟨rfl,rfl⟩
 | succ m ih =>
  intro k j h1 h2
  obtain ⟨k,rfl⟩:∃ q,k = q + 1:=⟨k - 1,by omega⟩
  rw [hF k j]
  by_cases h:j < l.length
  ·rw [dif_pos h,List.drop_eq_getElem_cons h,List.all_cons]
   cases hok:ok l[j] with
   | true =>
    simp only [if_true,Bool.true_and]
    rcases ih k (j + 1) (by omega) (by omega) with h3 | ⟨h3,i,h4,h5,h6⟩
    ·exact .inl h3
    ·exact .inr ⟨h3,i,h4,by omega,h6⟩
   | false =>
    simp only [Bool.false_eq_true,if_false,Bool.false_and]
    exact .inr ⟨trivial,j,h,Nat.le_refl _,hok,rfl⟩
  ·rw [dif_neg h,List.drop_of_length_le (by omega)]
   exact .inl ⟨rfl,rfl⟩
end
theorem hasV_all (vs:List Vx) (id:Int):hasV vs id = !(vs.all fun v=>!decide (v.1 = id)):=by
 unfold hasV
 rw [List.not_all_eq_any_not]
 simp
theorem f53_eq (vs:List Vx) (es:List Ed) (ds:List Int) (id:Int) (h1:vs.length≤1099511627776) (h2:es.length≤1099511627776) (h3:ds.length≤1099511627776) :
  (valid (vs,es,ds,()) = true∧∃ v∈vs,v.1 = id∧f53 (vs,es,ds,()) id = some (v,true,())) ∨
  ((valid (vs,es,ds,()) && hasV vs id) = false∧f53 (vs,es,ds,()) id = some ((0,0,()),false,())):=by
 have key:=find_loop2 tV (fun v:Vx=>!decide (v.1 = id)) (fun k j=>f115_l2x vs (vs.length:Int) false id vs es ds 0 0 k j) (.inl ((),((false,()),()),((vs,es,ds,()),(0,0,()),()))) (fun i=>.inr (((i:Int),()),((false,()),()),((vs,es,ds,()),(0,0,()),()))) vs (by
  intro k j
  show f115_l2x vs (vs.length:Int) false id vs es ds 0 0 (k + 1) (j:Int) = _
  conv=>lhs; unfold f115_l2x
  by_cases hj:j < vs.length
  ·have hget:at_ tV vs (j:Int) = vs[j]:=atN tV vs j hj
   rw [dT (by omega),dif_pos hj]
   simp only [cond_true,inRN,dT hj,hget,wS j (by omega)]
   by_cases c:vs[j].1 = id
   ·rw [dT c]; rfl
   ·rw [dF c]; rfl
  ·rw [dF (by omega),dif_neg hj]; rfl) vs.length (((vs.length:Int) - (0:Int)).toNat + 1) 0 (by omega) (by omega)
 rw [List.drop_zero] at key
 unfold f53
 rcases key with ⟨k1,k2⟩ | ⟨k0,i,hi,_,k1,k3⟩
 ·refine .inr ⟨?_,bind_step k2 rfl⟩
  rw [hasV_all,k1]
  simp
 ·have hv:=f46_eq (vs,es,ds,()) h1 h2 h3
  have hget:at_ tV vs (i:Int) = vs[i]:=atN tV vs i hi
  have hid:vs[i].1 = id:=by simpa using k1
  cases hval:valid (vs,es,ds,()) with
  | true =>
   rw [hval] at hv
   refine .inl ⟨rfl,vs[i],List.getElem_mem hi,hid,bind_step k3 ?_⟩
   refine bind_step hv ?_
   show (bif (inR (i:Int) vs.length) then some ((at_ tV vs (i:Int)),true,()) else none) = _
   rw [inRN,dT hi,hget]
   rfl
  | false =>
   rw [hval] at hv
   refine .inr ⟨rfl,bind_step k3 ?_⟩
   exact bind_step hv rfl
theorem f55_eq (vs:List Vx) (es:List Ed) (ds:List Int) (id:Int) (h1:vs.length≤1099511627776) :
  (hasV vs id = false∧f55 (vs,es,ds,()) id = some (-1,())) ∨ ∃ (i:Nat) (h:i < vs.length),vs[i].1 = id∧f55 (vs,es,ds,()) id = some ((i:Int),()):=by
 have key:=find_loop2 tV (fun v:Vx=>!decide (v.1 = id)) (fun k j=>f55_l2 id vs es ds k j) (.inl ((),(),())) (fun i=>.inr (((i:Int),()),(),())) vs (by
  intro k j
  show f55_l2 id vs es ds (k + 1) (j:Int) = _
  conv=>lhs; unfold f55_l2
  by_cases hj:j < vs.length
  ·have hget:at_ tV vs (j:Int) = vs[j]:=atN tV vs j hj
   rw [dT (by omega),dif_pos hj]
   simp only [cond_true,inRN,dT hj,hget,wS j (by omega)]
   by_cases c:vs[j].1 = id
   ·rw [dT c]; rfl
   ·rw [dF c]; rfl
  ·rw [dF (by omega),dif_neg hj]; rfl) vs.length (((vs.length:Int) - (0:Int)).toNat + 1) 0 (by omega) (by omega)
 rw [List.drop_zero] at key
 unfold f55
 rcases key with ⟨k1,k2⟩ | ⟨k0,i,hi,_,k1,k3⟩
 ·refine .inl ⟨?_,bind_step k2 rfl⟩
  rw [hasV_all,k1]
  simp
 ·exact .inr ⟨i,hi,by simpa using k1,bind_step k3 rfl⟩
theorem vid_inj {vs:List Vx} (h:asc kV vs = true) {a b:Vx} (ha:a∈vs) (hb:b∈vs) (hab:a.1 = b.1):a = b:=by
 have hp:=(asc_pairwise kV).1 h
 clear h
 induction vs with
 | nil=>simp at ha
 | cons x l ih =>
  obtain ⟨h1,h2⟩:=List.pairwise_cons.1 hp
  rcases List.mem_cons.1 ha with ha1 | ha1 <;> rcases List.mem_cons.1 hb with hb1 | hb1
  ·rw [ha1,hb1]
  ·have:x.1 < b.1:=h1 b hb1
   rw [ha1] at hab
   omega
  ·have:x.1 < a.1:=h1 a ha1
   rw [hb1] at hab
   omega
  ·exact ih ha1 hb1 h2
theorem hasV_of {vs:List Vx} {v:Vx} (h:v∈vs):hasV vs v.1 = true:=List.any_eq_true.2 ⟨v,h,by simp⟩
theorem page_p (vs:List Vx) (es:List Ed) (ds:List Int) (id:Int) (h1:vs.length≤1099511627776) (h2:es.length≤1099511627776) (h3:ds.length≤1099511627776) :
  (valid (vs,es,ds,()) = true∧∃ v∈vs,v.1 = id∧f19 (vs,es,ds,()) id = some (encs (pageN v (atE es id)),0,())) ∨
  ((valid (vs,es,ds,()) && hasV vs id) = false∧f19 (vs,es,ds,()) id = some (⟨#[]⟩,60,())):=by
 unfold f19
 rcases f53_eq vs es ds id h1 h2 h3 with ⟨a1,v,hi,a2,a4⟩ | ⟨a1,a2⟩
 ·have h:=ok_of vs es ds a1
  have n2:=h.ne
  refine .inl ⟨a1,v,hi,a2,bind_step a4 ?_⟩
  have:=f54_eq (vs,es,ds,()) v (show es.length≤1000 by omega) h.sE (h.sV _ hi)
  refine bind_step this ?_
  show some (encs (pageN v (atE es v.1)),(0:Int),()) = _
  rw [a2]
 ·exact .inr ⟨a1,bind_step a2 rfl⟩
end Go.V.G
namespace Go.V.G
open Go.Proofs
def labs:Int→List Nm→Bool
 | _,[]=>true
 | p,x :: l=>decide (p < x.1) && decide (x.1 < 24) && decide (x.2.1.length≤64) && labs x.1 l
theorem labs_loop (l:List Nm) (hl:l.length≤1099511627776):∀ (m k j:Nat) (p:Int),l.length - j≤m→m < k →
  f77_l3 l (l.length:Int) k p (j:Int) = some (bif labs p (l.drop j) then .inl ((),(),()) else .inr ((false,()),(),())):=by
 intro m
 induction m with
 | zero =>
  intro k j p h1 h2
  obtain ⟨k,rfl⟩:∃ q,k = q + 1:=⟨k - 1,by omega⟩
  unfold f77_l3
  rw [dF (by omega),List.drop_of_length_le (by omega)]
  rfl
 | succ m ih =>
  intro k j p h1 h2
  obtain ⟨k,rfl⟩:∃ q,k = q + 1:=⟨k - 1,by omega⟩
  by_cases hj:j < l.length
  ·have hget:at_ tM l (j:Int) = l[j]:=atN tM l j hj
   unfold f77_l3
   rw [dT (by omega),List.drop_eq_getElem_cons hj]
   simp only [cond_true,inRN,dT hj,hget,wS j (by omega),labs]
   by_cases c1:p < l[j].1
   ·by_cases c2:l[j].1 < 24
    ·by_cases c3:l[j].2.1.length≤64
     ·rw [dF (by omega),dF (by omega),dF (by omega),dT c1,dT c2,dT c3]
      exact ih k (j + 1) l[j].1 (by omega) (by omega)
     ·rw [dF (by omega),dF (by omega),dT (by omega),dT c1,dT c2,dF c3]
      rfl
    ·rw [dF (by omega),dT (by omega),dT c1,dF c2]
     rfl
   ·rw [dT (by omega),dF c1]
    rfl
  ·unfold f77_l3
   rw [dF (by omega),List.drop_of_length_le (by omega)]
   rfl
theorem f77_eq (l:List Nm) (hl:l.length≤1099511627776):f77 l = some (labs (-1) l,()):=by
 unfold f77
 have h:=labs_loop l hl l.length (((l.length:Int) - (0:Int)).toNat + 1) 0 (-1) (by omega) (by omega)
 rw [List.drop_zero] at h
 cases hb:labs (-1) l with
 | true=>rw [hb] at h; exact bind_step h rfl
 | false=>rw [hb] at h; exact bind_step h rfl
theorem f80_eq (l:List Int) (x:Int) (hl:l.length≤1099511627776):f80 l x = some (decide (x∈l),()):=by
 have key:=find_loop2 tI (fun v:Int=>!decide (x = v)) (fun k j=>f126_l2 l x (l.length:Int) k j) (.inl ((),(),())) (fun i=>.inr (((i:Int),()),(),())) l (by
  intro k j
  show f126_l2 l x (l.length:Int) (k + 1) (j:Int) = _
  conv=>lhs; unfold f126_l2
  by_cases hj:j < l.length
  ·have hget:at_ tI l (j:Int) = l[j]:=atN tI l j hj
   rw [dT (by omega),dif_pos hj]
   simp only [cond_true,inRN,dT hj,hget,wS j (by omega)]
   by_cases c:x = l[j]
   ·rw [dT c]; rfl
   ·rw [dF c]; rfl
  ·rw [dF (by omega),dif_neg hj]; rfl) l.length (((l.length:Int) - (0:Int)).toNat + 1) 0 (by omega) (by omega)
 rw [List.drop_zero] at key
 unfold f80 f126
 rcases key with ⟨k1,k2⟩ | ⟨k0,i,hi,_,k1,k3⟩
 ·have:x ∉ l:=fun hx=>by
   have:=List.all_eq_true.1 k1 x hx
   simp at this
  rw [dF this]
  exact bind_step (bind_step k2 rfl) rfl
 ·have:x∈l:=by
   have:x = l[i]:=by simpa using k1
   rw [this]
   exact List.getElem_mem hi
  rw [dT this]
  refine bind_step (bind_step k3 rfl) ?_
  show some (decide ((i:Int) ≥ 0),()) = _
  rw [dT (by omega)]
end Go.V.G
namespace Go.V.G
open Go.Proofs
abbrev Vw:=Vx × List Int × List Ed × List Nm × Unit
def kept (id:Int) (near:List Int) (l:List Nm):List Nm:=l.filter fun x=>decide (x.1 = id) || decide (x.1∈near)
theorem fold_kept (id:Int) (near:List Int):∀ (l acc:List Nm),l.foldl (fun acc x=>if (decide (x.1 = id) || decide (x.1∈near)) = true then acc++[x] else acc) acc = acc++kept id near l
 | [],acc=>by simp [kept]
 | e :: l,acc=>by
  have hf:kept id near (e :: l) = if (decide (e.1 = id) || decide (e.1∈near)) = true then e :: kept id near l else kept id near l:=by
   unfold kept
   rw [List.filter_cons]
  rw [List.foldl_cons,fold_kept id near l,hf]
  split <;> simp
theorem view_loop (l:List Nm) (hl:l.length≤1000) (hx:∀ x∈l,x.2.1.length≤1000) (z0 z1 v0 v1:Int) (ds:List Int) (es:List Ed) (id:Int) (near:List Int) (hn:near.length≤1000) (k:Nat) (hk:l.length < k) :
  f34_l7 l (l.length:Int) z0 z1 v0 v1 ds es (near++[id]) k 0 [] = some ((),(),((z0,z1,()),(v0,v1,ds,es,()),kept id near l,())):=by
 have hlp:=fold_loop tM (fun (acc:List Nm) (x:Nm)=>if (decide (x.1 = id) || decide (x.1∈near)) = true then acc++[x] else acc) (fun k j acc=>f34_l7 l (l.length:Int) z0 z1 v0 v1 ds es (near++[id]) k j acc) (fun r=>((),(),((z0,z1,()),(v0,v1,ds,es,()),r,()))) (fun j acc=>acc.length≤j∧j≤1000) l (by
  intro k j acc hI
  show f34_l7 l (l.length:Int) z0 z1 v0 v1 ds es (near++[id]) (k + 1) (j:Int) acc = _
  conv=>lhs; unfold f34_l7
  by_cases hj:j < l.length
  ·have hget:at_ tM l (j:Int) = l[j]:=atN tM l j hj
   rw [dif_pos hj,dT (by omega)]
   simp only [cond_true,inRN,dT hj,hget,wS j (by omega)]
   have h80:=f80_eq (near++[id]) l[j].1 (by simp; omega)
   refine bind_step h80 ?_
   have hm:decide (l[j].1∈near++[id]) = (decide (l[j].1 = id) || decide (l[j].1∈near)):=by
    rw [Bool.eq_iff_iff]
    simp only [decide_eq_true_eq,Bool.or_eq_true,List.mem_append,List.mem_singleton]
    exact Or.comm
   show (bif decide (l[j].1∈near++[id]) then _ else _) = _
   rw [hm]
   cases hb:(decide (l[j].1 = id) || decide (l[j].1∈near)) with
   | false=>rfl
   | true =>
    have h78:f78 l[j].2.1 = some (l[j].2.1,()):=by
     unfold f78
     have:=hx _ (List.getElem_mem hj)
     rw [dT (by unfold appLim; omega)]
     rfl
    rw [cond_true]
    refine bind_step h78 ?_
    show (bif (decide (acc.length + ([(l[j].1,l[j].2.1,())]:List Nm).length≤appLim)) then f34_l7 l (l.length:Int) z0 z1 v0 v1 ds es (near++[id]) k ((j + 1:Nat):Int) (acc++[(l[j].1,l[j].2.1,())]) else none) = _
    rw [appOk _ _ (by simp; omega)]
    rfl
  ·rw [dif_neg hj,dF (by omega)]
   rfl) (by
  intro j acc hj hI
  show (if (decide (l[j].1 = id) || decide (l[j].1∈near)) = true then acc++[l[j]] else acc).length≤j + 1∧j + 1≤1000
  split
  ·simp; omega
  ·omega)
 have h2:=hlp l.length k 0 [] (by omega) hk ⟨by simp,by omega⟩
 rw [List.drop_zero,fold_kept] at h2
 exact h2
theorem view_p (vs:List Vx) (es:List Ed) (ds:List Int) (l:List Nm) (id:Int) (h1:vs.length≤1099511627776) (h2:es.length≤1099511627776) (h3:ds.length≤1099511627776) (hl:l.length≤1000) (hx:∀ x∈l,x.2.1.length≤1000) :
  (valid (vs,es,ds,()) = true∧labs (-1) l = true∧∃ v∈vs,v.1 = id∧f34 (vs,es,ds,()) l id = some ((v,ds,atE es id,kept id (nb id (atE es id)) l,()),0,())) ∨
  ((valid (vs,es,ds,()) && hasV vs id && labs (-1) l) = false∧f34 (vs,es,ds,()) l id = some (((0,0,()),[],[],[],()),60,())):=by
 have h77:=f77_eq l (by omega)
 unfold f34
 rcases f53_eq vs es ds id h1 h2 h3 with ⟨a1,v,hi,a2,a4⟩ | ⟨a1,a2⟩
 ·have h:=ok_of vs es ds a1
  have n2:=h.ne
  have n3:=h.dl
  cases hb:labs (-1) l with
  | false =>
   rw [hb] at h77
   exact .inr ⟨by simp,bind_step a4 (bind_step h77 rfl)⟩
  | true =>
   rw [hb] at h77
   have hlen:=atE_len es id
   have hnb:=nb_len id (atE es id)
   refine .inl ⟨a1,rfl,v,hi,a2,bind_step a4 (bind_step h77 ?_)⟩
   have h78:f78 ds = some (ds,()):=by
    unfold f78
    rw [dT (by unfold appLim; omega)]
    rfl
   refine bind_step h78 ?_
   refine bind_step (f79_eq (vs,es,ds,()) (show es.length≤1000000 by omega) id) ?_
   refine bind_step (f31_eq id (atE es id) (by omega)) ?_
   rw [appOk _ _ (by simp; omega),cond_true]
   refine bind_step (view_loop l hl hx 0 0 v.1 v.2.1 ds (atE es id) id (nb id (atE es id)) (by omega) _ (by omega)) ?_
   rfl
 ·exact .inr ⟨by rw [a1]; rfl,bind_step a2 rfl⟩
end Go.V.G
namespace Go.V.G
open Go.Proofs
theorem same_all {R α:Type} [DecidableEq α] (a b:List α) (n:Nat) (ha:a.length = n) (hb:b.length = n) (F:Nat→Int→Option R) (yes no:R)
  (hF:∀ k (j:Nat),F (k + 1) (j:Int) = if h:j < n then (if a[j]'(by omega) = b[j]'(by omega) then F k ((j + 1:Nat):Int) else some no) else some yes) (k:Nat) (hk:n < k) :
  F k 0 = some (if a = b then yes else no):=by
 rcases idx_loop n (fun j=>if h:j < n then decide (a[j]'(by omega) = b[j]'(by omega)) else true) F yes no (by
  intro k j
  rw [hF k j]
  by_cases h:j < n
  ·rw [dif_pos h,if_pos h]
   simp only [h,dite_true,decide_eq_true_eq]
  ·rw [dif_neg h,if_neg h]) n k 0 (by omega) hk with ⟨h1,h2⟩ | ⟨⟨i,_,h1,h2⟩,h3⟩
 ·rw [if_pos]
  ·exact h2
  ·refine List.ext_getElem (by omega) fun i h3 h4=>?_
   have:=h1 i (Nat.zero_le _) (by omega)
   simpa [show i < n by omega] using this
 ·rw [if_neg]
  ·exact h3
  ·intro e
   subst e
   simp [h1] at h2
instance decB:DecidableEq (Bool × Int × Int × Unit):=inferInstance
instance decB2:DecidableEq (Int × Int × Bool × Int × Int × Unit):=inferInstance
instance decEd:DecidableEq Ed:=@instDecidableEqProd Int (Int × Int × Bool × Int × Int × Unit) _ decB2
theorem ed_eq (x y:Ed):(decide (x.1 = y.1) && (decide (x.2.1 = y.2.1) && (decide (x.2.2.1 = y.2.2.1) && (decide (x.2.2.2.1 = y.2.2.2.1) && (decide (x.2.2.2.2.1 = y.2.2.2.2.1) && (decide (x.2.2.2.2.2.1 = y.2.2.2.2.2.1) && true)))))) = decide (x = y):=by
 obtain ⟨a,b,c,d,e,f,u⟩:=x
 obtain ⟨a',b',c',d',e',f',u'⟩:=y
 rw [Bool.eq_iff_iff]
 simp [Prod.ext_iff]
theorem vx_eq (x y:Vx):(decide (x.1 = y.1) && (decide (x.2.1 = y.2.1) && true)) = decide (x = y):=by
 obtain ⟨a,b,u⟩:=x
 obtain ⟨a',b',u'⟩:=y
 rw [Bool.eq_iff_iff]
 simp [Prod.ext_iff]
theorem f30_eq (a b:List Int) (ha:a.length≤1099511627776):f30 a b = some (decide (a = b),()):=by
 unfold f30
 by_cases h:a.length = b.length
 ·rw [dF (by simp; omega),cond_false]
  have hs:=same_all a b a.length rfl h.symm (fun k j=>f30_l4 a b k j) (.inl ((),(),())) (.inr ((false,()),(),())) (by
   intro k j
   show f30_l4 a b (k + 1) (j:Int) = _
   conv=>lhs; unfold f30_l4
   by_cases hj:j < a.length
   ·have g1:at_ tI a (j:Int) = a[j]:=atN tI a j hj
    have g2:at_ tI b (j:Int) = b[j]'(by omega):=atN tI b j (by omega)
    rw [dif_pos hj,dT (by omega)]
    simp only [cond_true,inRN,dT hj,dT (show j < b.length by omega),g1,g2,wS j (by omega)]
    by_cases he:a[j] = b[j]'(by omega)
    ·rw [dF (by simp [he]),if_pos he]; rfl
    ·rw [dT he,if_neg he]; rfl
   ·rw [dif_neg hj,dF (by omega)]; rfl) (((a.length:Int) - (0:Int)).toNat + 1) (by omega)
  by_cases e:a = b
  ·rw [dT e]; exact bind_step (hs.trans (congrArg some (if_pos e))) rfl
  ·rw [dF e]; exact bind_step (hs.trans (congrArg some (if_neg e))) rfl
 ·rw [dT (by simp; omega),cond_true,dF (fun e=>h (by rw [e]))]
theorem edges_eq29 (a b:List Ed) (ha:a.length≤1099511627776):f29 a b = some (decide (a = b),()):=by
 unfold f29
 by_cases h:a.length = b.length
 ·rw [dF (by simp; omega),cond_false]
  have hs:=same_all a b a.length rfl h.symm (fun k j=>f29_l4 a b k j) (.inl ((),(),())) (.inr ((false,()),(),())) (by
   intro k j
   show f29_l4 a b (k + 1) (j:Int) = _
   conv=>lhs; unfold f29_l4
   by_cases hj:j < a.length
   ·have g1:at_ tE a (j:Int) = a[j]:=atN tE a j hj
    have g2:at_ tE b (j:Int) = b[j]'(by omega):=atN tE b j (by omega)
    rw [dif_pos hj,dT (by omega)]
    simp only [cond_true,inRN,dT hj,dT (show j < b.length by omega),g1,g2,wS j (by omega),ed_eq]
    by_cases he:a[j] = b[j]'(by omega)
    ·rw [dT he,if_pos he]; rfl
    ·rw [dF he,if_neg he]; rfl
   ·rw [dif_neg hj,dF (by omega)]; rfl) (((a.length:Int) - (0:Int)).toNat + 1) (by omega)
  by_cases e:a = b
  ·rw [dT e]; exact bind_step (hs.trans (congrArg some (if_pos e))) rfl
  ·rw [dF e]; exact bind_step (hs.trans (congrArg some (if_neg e))) rfl
 ·rw [dT (by simp; omega),cond_true,dF (fun e=>h (by rw [e]))]
theorem f24_eq (va vb:List Vx) (ea eb:List Ed) (da db:List Int) (h1:va.length≤1099511627776) (h2:ea.length≤1099511627776) (h3:da.length≤1099511627776):f24 (va,ea,da,()) (vb,eb,db,()) = some (decide (va = vb) && (decide (ea = eb) && decide (da = db)),()):=by
 unfold f24
 by_cases h:va.length = vb.length
 ·simp only
  rw [dF (by simp; omega),cond_false]
  refine bind_step (edges_eq29 ea eb h2) ?_
  by_cases c1:ea = eb
  ·simp only [dT c1,Bool.not_true,cond_false]
   refine bind_step (f30_eq da db h3) ?_
   by_cases c2:da = db
   ·simp only [dT c2,Bool.not_true,cond_false]
    have hs:=same_all va vb va.length rfl h.symm (fun k j=>f24_l4 va ea da vb eb db k j) (.inl ((),(),())) (.inr ((false,()),(),())) (by
     intro k j
     show f24_l4 va ea da vb eb db (k + 1) (j:Int) = _
     conv=>lhs; unfold f24_l4
     by_cases hj:j < va.length
     ·have g1:at_ tV va (j:Int) = va[j]:=atN tV va j hj
      have g2:at_ tV vb (j:Int) = vb[j]'(by omega):=atN tV vb j (by omega)
      rw [dif_pos hj,dT (by omega)]
      simp only [cond_true,inRN,dT hj,dT (show j < vb.length by omega),g1,g2,wS j (by omega),vx_eq]
      by_cases he:va[j] = vb[j]'(by omega)
      ·rw [dT he,if_pos he]; rfl
      ·rw [dF he,if_neg he]; rfl
     ·rw [dif_neg hj,dF (by omega)]; rfl) (((va.length:Int) - (0:Int)).toNat + 1) (by omega)
    by_cases e:va = vb
    ·rw [dT e]; exact bind_step (hs.trans (congrArg some (if_pos e))) rfl
    ·rw [dF e]; exact bind_step (hs.trans (congrArg some (if_neg e))) rfl
   ·simp only [dF c2,Bool.not_false,cond_true]
    rw [Bool.and_false,Bool.and_false]
  ·simp only [dF c1,Bool.not_false,cond_true]
   rw [Bool.false_and,Bool.and_false]
 ·simp only
  rw [dT (by simp; omega),cond_true,dF (fun e:va = vb=>h (by rw [e])),Bool.false_and]
end Go.V.G
namespace Go.V.G
open Go.Proofs
def f10G (F13:tysDen f13_spec.args→Option (tysDen f13_spec.res)) (F15:tysDen f15_spec.args→Option (tysDen f15_spec.res)) (F19:tysDen f19_spec.args→Option (tysDen f19_spec.res)) (F22:tysDen f22_spec.args→Option (tysDen f22_spec.res)) (F24:tysDen f24_spec.args→Option (tysDen f24_spec.res)) (F25:tysDen f25_spec.args→Option (tysDen f25_spec.res)) (F27:tysDen f27_spec.args→Option (tysDen f27_spec.res)) (F30:tysDen f30_spec.args→Option (tysDen f30_spec.res)) (pF31:tysDen pf31_spec.args→Option (tysDen pf31_spec.res)) (F34:tysDen f34_spec.args→Option (tysDen f34_spec.res)):Option (Bool × Unit) :=
 (F19 ((([((0:Int),(0,())),((2:Int),((1:Int),()))]:List Vx),(([((1:Int),((2:Int),((0:Int),(true,((7:Int),((1:Int),())))))),((3:Int),((2:Int),((2:Int),(false,(0,(0,()))))))]:List Ed),(([(0:Int)]:List Int),()))),((0:Int),()))).bind fun y1 =>
 (F19 ((([((0:Int),(0,())),((2:Int),((1:Int),()))]:List Vx),(([((1:Int),((2:Int),((0:Int),(true,((7:Int),((1:Int),())))))),((3:Int),((2:Int),((2:Int),(false,(0,(0,()))))))]:List Ed),(([(0:Int)]:List Int),()))),((1:Int),()))).bind fun y2 =>
 (F25 (y1.1,())).bind fun y3 =>
 (F13 ((([((0:Int),(0,())),((2:Int),((1:Int),()))]:List Vx),(([((1:Int),((2:Int),((0:Int),(true,((7:Int),((1:Int),())))))),((3:Int),((2:Int),((2:Int),(false,(0,(0,()))))))]:List Ed),(([(0:Int)]:List Int),()))),())).bind fun y4 =>
 (F15 ((([((0:Int),(0,())),((2:Int),((1:Int),()))]:List Vx),(([((1:Int),((2:Int),((0:Int),(true,((7:Int),((1:Int),())))))),((3:Int),((2:Int),((2:Int),(false,(0,(0,()))))))]:List Ed),(([(0:Int)]:List Int),()))),())).bind fun y5 =>
 (F22 (y4.1,())).bind fun y6 =>
 (F34 ((([((0:Int),(0,())),((2:Int),((1:Int),()))]:List Vx),(([((1:Int),((2:Int),((0:Int),(true,((7:Int),((1:Int),())))))),((3:Int),((2:Int),((2:Int),(false,(0,(0,()))))))]:List Ed),(([(0:Int)]:List Int),()))),(([((0:Int),(([(5:Int)]:List Int),())),((1:Int),(([(6:Int)]:List Int),())),((2:Int),(([(7:Int)]:List Int),()))]:List Nm),((0:Int),())))).bind fun y7 =>
 bif (decide (y1.2.1 ≠ (0:Int))) then
 some (false,())
 else
 bif (decide (y2.2.1 ≠ (60:Int))) then
 some (false,())
 else
 bif (decide (y3.2.2.1 ≠ (0:Int))) then
 some (false,())
 else
 bif (decide (y4.2.1 ≠ (0:Int))) then
 some (false,())
 else
 bif (decide (y5.2.1 ≠ (0:Int))) then
 some (false,())
 else
 bif (decide (y6.2.1 ≠ (0:Int))) then
 some (false,())
 else
 bif (decide (y7.2.1 ≠ (0:Int))) then
 some (false,())
 else
 let v8:Bool:=(decide ((y4.1.length:Int) ≠ (3:Int)))
 bif v8 then
 some (false,())
 else
 let v9:Bool:=(decide ((y3.2.1.length:Int) ≠ (1:Int)))
 bif v9 then
 some (false,())
 else
 let v10:Bool:=(decide ((y7.1.2.2.2.1.length:Int) ≠ (2:Int)))
 bif v10 then
 some (false,())
 else
 let v11:Bool:=(decide ((y5.1.size:Int) ≠ (32:Int)))
 bif v11 then
 some (false,())
 else
 bif (inR (2:Int) y4.1.length) then
 let v12:ByteArray:=(at_ tN y4.1 (2:Int)).2.1
 (F27 (v12,())).bind fun y13 =>
 (pF31 ((2:Int),(([((1:Int),((2:Int),((0:Int),(true,((7:Int),((1:Int),())))))),((3:Int),((2:Int),((2:Int),(false,(0,(0,()))))))]:List Ed),()))).bind fun y14 =>
 let v15:Bool:=(decide (y1.1 = (⟨#[0,0,2,2,4,0,2,14,2]⟩:ByteArray)))
 bif v15 then
 bif (inR (0:Int) y4.1.length) then
 let v16:ByteArray:=(at_ tN y4.1 (0:Int)).2.1
 bif (decide (v16 = y1.1)) then
 bif (inR (2:Int) y4.1.length) then
 let v17:Int:=(at_ tN y4.1 (2:Int)).1
 bif (decide (v17 = (63:Int))) then
 bif (inR (2:Int) y4.1.length) then
 let v18:ByteArray:=(at_ tN y4.1 (2:Int)).2.1
 let v19:Bool:=(decide (v18 = (⟨#[2,0,20]⟩:ByteArray)))
 bif v19 then
 bif (inR (0:Int) ([((0:Int),(0,())),((2:Int),((1:Int),()))]:List Vx).length) then
 let v20:Bool:=(decide (y3.1.1 = (at_ tV ([((0:Int),(0,())),((2:Int),((1:Int),()))]:List Vx) (0:Int)).1) && (decide (y3.1.2.1 = (at_ tV ([((0:Int),(0,())),((2:Int),((1:Int),()))]:List Vx) (0:Int)).2.1) && true))
 bif v20 then
 bif (inR (0:Int) y3.2.1.length) then
 bif (inR (0:Int) ([((1:Int),((2:Int),((0:Int),(true,((7:Int),((1:Int),())))))),((3:Int),((2:Int),((2:Int),(false,(0,(0,()))))))]:List Ed).length) then
 let v21:Bool:=(decide ((at_ tE y3.2.1 (0:Int)).1 = (at_ tE ([((1:Int),((2:Int),((0:Int),(true,((7:Int),((1:Int),())))))),((3:Int),((2:Int),((2:Int),(false,(0,(0,()))))))]:List Ed) (0:Int)).1) && (decide ((at_ tE y3.2.1 (0:Int)).2.1 = (at_ tE ([((1:Int),((2:Int),((0:Int),(true,((7:Int),((1:Int),())))))),((3:Int),((2:Int),((2:Int),(false,(0,(0,()))))))]:List Ed) (0:Int)).2.1) && (decide ((at_ tE y3.2.1 (0:Int)).2.2.1 = (at_ tE ([((1:Int),((2:Int),((0:Int),(true,((7:Int),((1:Int),())))))),((3:Int),((2:Int),((2:Int),(false,(0,(0,()))))))]:List Ed) (0:Int)).2.2.1) && (decide ((at_ tE y3.2.1 (0:Int)).2.2.2.1 = (at_ tE ([((1:Int),((2:Int),((0:Int),(true,((7:Int),((1:Int),())))))),((3:Int),((2:Int),((2:Int),(false,(0,(0,()))))))]:List Ed) (0:Int)).2.2.2.1) && (decide ((at_ tE y3.2.1 (0:Int)).2.2.2.2.1 = (at_ tE ([((1:Int),((2:Int),((0:Int),(true,((7:Int),((1:Int),())))))),((3:Int),((2:Int),((2:Int),(false,(0,(0,()))))))]:List Ed) (0:Int)).2.2.2.2.1) && (decide ((at_ tE y3.2.1 (0:Int)).2.2.2.2.2.1 = (at_ tE ([((1:Int),((2:Int),((0:Int),(true,((7:Int),((1:Int),())))))),((3:Int),((2:Int),((2:Int),(false,(0,(0,()))))))]:List Ed) (0:Int)).2.2.2.2.2.1) && true))))))
 bif v21 then
 bif (decide (y13.2.2.1 = (0:Int))) then
 bif (decide (y13.2.1 = (10:Int))) then
 (F30 (y13.1,(([(0:Int)]:List Int),()))).bind fun y22 =>
 bif y22.1 then
 (F30 (y14.1,(([(0:Int)]:List Int),()))).bind fun y23 =>
 bif y23.1 then
 (F24 (y6.1,((([((0:Int),(0,())),((2:Int),((1:Int),()))]:List Vx),(([((1:Int),((2:Int),((0:Int),(true,((7:Int),((1:Int),())))))),((3:Int),((2:Int),((2:Int),(false,(0,(0,()))))))]:List Ed),(([(0:Int)]:List Int),()))),()))).bind fun y24 =>
 bif y24.1 then
 bif (inR (1:Int) y7.1.2.2.2.1.length) then
 let v25:Int:=(at_ tM y7.1.2.2.2.1 (1:Int)).1
 some ((decide (v25 = (2:Int))),())
 else none
 else
 some (false,())
 else
 some (false,())
 else
 some (false,())
 else
 some (false,())
 else
 some (false,())
 else
 some (false,())
 else none
 else none
 else
 some (false,())
 else none
 else
 some (false,())
 else none
 else
 some (false,())
 else none
 else
 some (false,())
 else none
 else
 some (false,())
 else none
def f10:Option (Bool × Unit):=f10G f13_spec.fn f15_spec.fn f19_spec.fn f22_spec.fn f24_spec.fn f25_spec.fn f27_spec.fn f30_spec.fn pf31_spec.fn f34_spec.fn
def f10_spec:PSpec:={ args:=[],res:=[.bool],fn:=fun x=>f10  }
noncomputable def f10_code:Code:=Tryz.f10.body.getD .skip
noncomputable def f10_envG (F13:tysDen f13_spec.args→Option (tysDen f13_spec.res)) (F15:tysDen f15_spec.args→Option (tysDen f15_spec.res)) (F19:tysDen f19_spec.args→Option (tysDen f19_spec.res)) (F22:tysDen f22_spec.args→Option (tysDen f22_spec.res)) (F24:tysDen f24_spec.args→Option (tysDen f24_spec.res)) (F25:tysDen f25_spec.args→Option (tysDen f25_spec.res)) (F27:tysDen f27_spec.args→Option (tysDen f27_spec.res)) (F30:tysDen f30_spec.args→Option (tysDen f30_spec.res)) (pF31:tysDen pf31_spec.args→Option (tysDen pf31_spec.res)) (F34:tysDen f34_spec.args→Option (tysDen f34_spec.res)):Env0:={ C:=cfg,P:=[(13,{ args:=f13_spec.args,res:=f13_spec.res,fn:=F13 }),(15,{ args:=f15_spec.args,res:=f15_spec.res,fn:=F15 }),(19,{ args:=f19_spec.args,res:=f19_spec.res,fn:=F19 }),(22,{ args:=f22_spec.args,res:=f22_spec.res,fn:=F22 }),(24,{ args:=f24_spec.args,res:=f24_spec.res,fn:=F24 }),(25,{ args:=f25_spec.args,res:=f25_spec.res,fn:=F25 }),(27,{ args:=f27_spec.args,res:=f27_spec.res,fn:=F27 }),(30,{ args:=f30_spec.args,res:=f30_spec.res,fn:=F30 }),(31,{ args:=pf31_spec.args,res:=pf31_spec.res,fn:=pF31 }),(34,{ args:=f34_spec.args,res:=f34_spec.res,fn:=F34 })],L:=[],F:=[(10,Tryz.f10)] }
theorem f10_runG (F13:tysDen f13_spec.args→Option (tysDen f13_spec.res)) (F15:tysDen f15_spec.args→Option (tysDen f15_spec.res)) (F19:tysDen f19_spec.args→Option (tysDen f19_spec.res)) (F22:tysDen f22_spec.args→Option (tysDen f22_spec.res)) (F24:tysDen f24_spec.args→Option (tysDen f24_spec.res)) (F25:tysDen f25_spec.args→Option (tysDen f25_spec.res)) (F27:tysDen f27_spec.args→Option (tysDen f27_spec.res)) (F30:tysDen f30_spec.args→Option (tysDen f30_spec.res)) (pF31:tysDen pf31_spec.args→Option (tysDen pf31_spec.res)) (F34:tysDen f34_spec.args→Option (tysDen f34_spec.res)) (x:tysDen (f10_spec).args):runF (f10_envG F13 F15 F19 F22 F24 F25 F27 F30 pF31 F34) 10 Tryz.f10 f10_code (f10_spec).args (f10_spec).res x = f10G F13 F15 F19 F22 F24 F25 F27 F30 pF31 F34:=by kernel_rfl
noncomputable def f10_env:Env0:=f10_envG f13_spec.fn f15_spec.fn f19_spec.fn f22_spec.fn f24_spec.fn f25_spec.fn f27_spec.fn f30_spec.fn pf31_spec.fn f34_spec.fn
theorem f10_run (x:tysDen (f10_spec).args):runF f10_env 10 Tryz.f10 f10_code (f10_spec).args (f10_spec).res x = f10_spec.fn x:=f10_runG f13_spec.fn f15_spec.fn f19_spec.fn f22_spec.fn f24_spec.fn f25_spec.fn f27_spec.fn f30_spec.fn pf31_spec.fn f34_spec.fn x
theorem f10_enter:Enterable Tryz.prog 10:=enter_fun Tryz.func10 (by kernel_rfl)
theorem f10_envOK:EnvOK Tryz.prog f10_env:=envOK_of cds (by kernel_rfl) cfg_ok ⟨⟨f13_pure,f13_enter⟩,⟨f15_pure,f15_enter⟩,⟨f19_pure,f19_enter⟩,⟨f22_pure,f22_enter⟩,⟨f24_pure,f24_enter⟩,⟨f25_pure,f25_enter⟩,⟨f27_pure,f27_enter⟩,⟨f30_pure,f30_enter⟩,⟨pf31_pure,pf31_enter⟩,⟨f34_pure,f34_enter⟩,trivial⟩ trivial ⟨⟨Tryz.func10,by kernel_rfl⟩,trivial⟩ trivial trivial trivial
theorem f10_pure:PureOK Tryz.prog cfg 10 f10_spec:=pure_of_run f10_envOK (fn:=Tryz.f10) (c:=f10_code) rfl rfl f10_spec (fun x _ h=>(f10_run x).trans h)
end Go.V.G
namespace Go.V.G
open Go.Proofs
def exV:List Vx:=[(0,0,()),(2,1,())]
def exE:List Ed:=[(1,2,0,true,7,1,()),(3,2,2,false,0,0,())]
def exL:List Nm:=[(0,[5],()),(1,[6],()),(2,[7],())]
theorem ex_valid:valid (exV,exE,[0],()) = true:=by decide
theorem encs_is:∀ (l:List Int) (zs:List Nat),l.map zig = zs→(∀ z∈zs,z < 128)→nbytes (encs l) = zs
 | [],zs,h,_=>by subst h; rfl
 | n :: l,zs,h,hz=>by
  subst h
  have h1:=hz (zig n) (by simp)
  show nbytes (enc n++encs l) = _
  rw [nbytes_app,nbytes_enc,grpN_lt h1,encs_is l (l.map zig) rfl (fun z hz'=>hz z (by simp at hz' ⊢; exact .inr hz'))]
  rfl
theorem ex_page:encs (pageN (0,0,()) (atE exE 0)) = (⟨#[0,0,2,2,4,0,2,14,2]⟩:ByteArray):=by
 apply nbytes_inj
 rw [encs_is _ [0,0,2,2,4,0,2,14,2] (by decide) (by decide)]
 decide
theorem ex_head:encs (headN exE [0]) = (⟨#[2,0,20]⟩:ByteArray):=by
 apply nbytes_inj
 rw [encs_is _ [2,0,20] (by decide) (by decide)]
 decide
theorem root15 {vs es ds} (hv:valid (vs,es,ds,()) = true):f15 (vs,es,ds,()) = some (rootD (entsG vs es ds),0,()):=by
 have h:=ok_of _ _ _ hv
 unfold f15
 refine bind_step (entries_p vs es ds hv) ?_
 refine bind_step (f13_eq (ents_valid h)) ?_
 rfl
theorem ex_root:(rootD (entsG exV exE [0])).size = 32:=by
 have h:=ok_of _ _ _ ex_valid
 exact D_size (fun e he=>((ents_valid h).val e he).2) 6 0
theorem sane_run (F13:tysDen f13_spec.args→Option (tysDen f13_spec.res)) (F15:tysDen f15_spec.args→Option (tysDen f15_spec.res)) (F19:tysDen f19_spec.args→Option (tysDen f19_spec.res)) (F22:tysDen f22_spec.args→Option (tysDen f22_spec.res)) (F24:tysDen f24_spec.args→Option (tysDen f24_spec.res)) (F25:tysDen f25_spec.args→Option (tysDen f25_spec.res)) (F27:tysDen f27_spec.args→Option (tysDen f27_spec.res)) (F30:tysDen f30_spec.args→Option (tysDen f30_spec.res)) (pF31:tysDen pf31_spec.args→Option (tysDen pf31_spec.res)) (F34:tysDen f34_spec.args→Option (tysDen f34_spec.res))
  (p2 r:ByteArray) (hr:r.size = 32)
  (h19a:F19 ((exV,exE,[0],()),0,()) = some ((⟨#[0,0,2,2,4,0,2,14,2]⟩:ByteArray),(0:Int),()))
  (h19b:F19 ((exV,exE,[0],()),1,()) = some ((⟨#[]⟩:ByteArray),(60:Int),()))
  (h25:F25 ((⟨#[0,0,2,2,4,0,2,14,2]⟩:ByteArray),()) = some (((0,0,()):Vx),([(1,2,0,true,7,1,())]:List Ed),(0:Int),()))
  (h13:F13 ((exV,exE,[0],()),()) = some (([(0,(⟨#[0,0,2,2,4,0,2,14,2]⟩:ByteArray),()),(2,p2,()),(63,(⟨#[2,0,20]⟩:ByteArray),())]:List En),(0:Int),()))
  (h15:F15 ((exV,exE,[0],()),()) = some (r,(0:Int),()))
  (h22:F22 (([(0,(⟨#[0,0,2,2,4,0,2,14,2]⟩:ByteArray),()),(2,p2,()),(63,(⟨#[2,0,20]⟩:ByteArray),())]:List En),()) = some ((exV,exE,[0],()),(0:Int),()))
  (h34:F34 ((exV,exE,[0],()),exL,0,()) = some ((((0,0,()):Vx),([0]:List Int),([(1,2,0,true,7,1,())]:List Ed),([(0,[5],()),(2,[7],())]:List Nm),()),(0:Int),()))
  (h27:F27 ((⟨#[2,0,20]⟩:ByteArray),()) = some (([0]:List Int),(10:Int),(0:Int),()))
  (h31:pF31 (2,exE,()) = some (([0]:List Int),()))
  (h30:F30 ([0],[0],()) = some (true,()))
  (h24:F24 ((exV,exE,[0],()),(exV,exE,[0],()),()) = some (true,())) :
  f10G F13 F15 F19 F22 F24 F25 F27 F30 pF31 F34 = some (true,()):=by
 unfold f10G
 refine bind_step h19a ?_
 refine bind_step h19b ?_
 refine bind_step h25 ?_
 refine bind_step h13 ?_
 refine bind_step h15 ?_
 refine bind_step h22 ?_
 refine bind_step h34 ?_
 show (bif decide ((r.size:Int) ≠ 32) then some (false,()) else Option.bind (F27 ((⟨#[2,0,20]⟩:ByteArray),())) _) = _
 rw [dF (by omega),cond_false]
 refine bind_step h27 ?_
 refine bind_step h31 ?_
 refine bind_step h30 ?_
 refine bind_step h30 ?_
 refine bind_step h24 ?_
 rfl
theorem sane_eq:f10 = some (true,()):=by
 have hok:=ok_of _ _ _ ex_valid
 have h19a:f19 (exV,exE,[0],()) 0 = some (encs (pageN (0,0,()) (atE exE 0)),0,()):=by
  rcases page_p exV exE [0] 0 (by decide) (by decide) (by decide) with ⟨_,v,hv,h1,h2⟩ | ⟨h1,_⟩
  ·have:v = (0,0,()):=by
    rcases List.mem_cons.1 hv with rfl | hv
    ·rfl
    ·rw [List.mem_singleton.1 hv] at h1; cases h1
   rw [h2,this]
  ·exact absurd h1 (by decide)
 have h19b:f19 (exV,exE,[0],()) 1 = some (⟨#[]⟩,60,()):=by
  rcases page_p exV exE [0] 1 (by decide) (by decide) (by decide) with ⟨_,v,hv,h1,h2⟩ | ⟨_,h1⟩
  ·rcases List.mem_cons.1 hv with rfl | hv
   ·cases h1
   ·rw [List.mem_singleton.1 hv] at h1; cases h1
  ·exact h1
 have h25:f25 (encs (pageN (0,0,()) (atE exE 0))) = some ((0,0,()),atE exE 0,0,()):=by
  have hp:=parse_row hok (v:=(0,0,())) (by decide)
  have hp':parse (nbytes (encs (pageN (0,0,()) (atE exE 0)))) = some ((0,0,()),atE exE 0):=hp
  rw [f25_eq _ (by rw [ex_page]; decide),hp']
  rfl
 have h13:=entries_p exV exE [0] ex_valid
 have h15:=root15 ex_valid
 have h22:=join_yes ex_valid
 have h34:f34 (exV,exE,[0],()) exL 0 = some (((0,0,()),[0],atE exE 0,kept 0 (nb 0 (atE exE 0)) exL,()),0,()):=by
  rcases view_p exV exE [0] exL 0 (by decide) (by decide) (by decide) (by decide) (by decide) with ⟨_,_,v,hv,h1,h2⟩ | ⟨h1,_⟩
  ·have:v = (0,0,()):=by
    rcases List.mem_cons.1 hv with rfl | hv
    ·rfl
    ·rw [List.mem_singleton.1 hv] at h1; cases h1
   rw [h2,this]
  ·exact absurd h1 (by decide)
 have nb0:nb 0 (atE exE 0) = [2]:=by
  refine asc_ext kI _ _ (nb_asc _ _) (by decide) fun x=>?_
  rw [nb_mem]
  constructor
  ·rintro ⟨h1,e,he,_,h2⟩
   have:e = (1,2,0,true,7,1,()):=by
    have:e∈[(1,2,0,true,7,1,())]:=he
    exact List.mem_singleton.1 this
   subst this
   rw [← h2]
   decide
  ·intro h
   rw [List.mem_singleton] at h
   subst h
   exact ⟨by decide,(1,2,0,true,7,1,()),by decide,by decide,by decide⟩
 have nb2:nb 2 exE = [0]:=by
  refine asc_ext kI _ _ (nb_asc _ _) (by decide) fun x=>?_
  rw [nb_mem]
  constructor
  ·rintro ⟨h1,e,he,_,h2⟩
   rcases List.mem_cons.1 he with rfl | he
   ·rw [← h2]; decide
   ·rw [List.mem_singleton.1 he] at h2
    exact absurd h2.symm h1
  ·intro h
   rw [List.mem_singleton] at h
   subst h
   exact ⟨by decide,(1,2,0,true,7,1,()),by decide,by decide,by decide⟩
 have h27:f27 (encs (headN exE [0])) = some ([0],10,0,()):=by
  rw [f27_eq _ (by rw [ex_head]; decide),parseH_head hok]
  decide
 have h31:pf31 2 exE = some ([0],()):=by rw [pf31_eq 2 exE (by decide),nb2]
 have h30:f30 [0] [0] = some (true,()):=by rw [f30_eq _ _ (by decide)]; rfl
 have h24:f24 (exV,exE,[0],()) (exV,exE,[0],()) = some (true,()):=by
  rw [f24_eq _ _ _ _ _ _ (by decide) (by decide) (by decide)]
  simp
 have ha:atE exE 0 = [(1,2,0,true,7,1,())]:=by decide
 have hk:kept 0 [2] exL = [(0,[5],()),(2,[7],())]:=by decide
 have he:entsG exV exE [0] = [(0,(⟨#[0,0,2,2,4,0,2,14,2]⟩:ByteArray),()),(2,encs (pageN (2,1,()) (atE exE 2)),()),(63,(⟨#[2,0,20]⟩:ByteArray),())]:=by
  rw [← ex_page,← ex_head]
  rfl
 rw [ex_page] at h19a h25
 rw [ha] at h25
 rw [he] at h13 h22
 rw [nb0,hk,ha] at h34
 rw [ex_head] at h27
 have run:=sane_run f13_spec.fn f15_spec.fn f19_spec.fn f22_spec.fn f24_spec.fn f25_spec.fn f27_spec.fn f30_spec.fn pf31_spec.fn f34_spec.fn (encs (pageN (2,1,()) (atE exE 2))) (rootD (entsG exV exE [0])) ex_root
 have g19:∀ g n,f19_spec.fn (g,n,()) = f19 g n:=fun _ _=>rfl
 have g25:∀ s,f25_spec.fn (s,()) = f25 s:=fun _=>rfl
 have g13:∀ g,f13_spec.fn (g,()) = f13 g:=fun _=>rfl
 have g15:∀ g,f15_spec.fn (g,()) = f15 g:=fun _=>rfl
 have g22:∀ l,f22_spec.fn (l,()) = f22 l:=fun _=>rfl
 have g34:∀ g l n,f34_spec.fn (g,l,n,()) = f34 g l n:=fun _ _ _=>rfl
 have g27:∀ s,f27_spec.fn (s,()) = f27 s:=fun _=>rfl
 have g31:∀ n l,pf31_spec.fn (n,l,()) = pf31 n l:=fun _ _=>rfl
 have g30:∀ a b,f30_spec.fn (a,b,()) = f30 a b:=fun _ _=>rfl
 have g24:∀ a b,f24_spec.fn (a,b,()) = f24 a b:=fun _ _=>rfl
 exact run ((g19 _ _).trans h19a) ((g19 _ _).trans h19b) ((g25 _).trans h25) ((g13 _).trans h13) ((g15 _).trans h15) ((g22 _).trans h22) ((g34 _ _ _).trans h34) ((g27 _).trans h27) ((g31 _ _).trans h31) ((g30 _ _).trans h30) ((g24 _ _).trans h24)
end Go.V.G
namespace Go.V.G
open Go.Proofs
def i64 (x:Int):Prop:=-9223372036854775808≤x∧x≤9223372036854775807
theorem wrap_rng (x:Int):i64 (IntKind.wrap .i64 x):=by
 unfold i64
 simp [IntKind.wrap,IntKind.bits,IntKind.signed]
 omega
def pkV (c n:Int):Int:=Int.tmod (if c < 0 then -(c + 1) else c) n
theorem pkV_rng (c n:Int) (hn:0 < n):0≤pkV c n∧pkV c n < n:=by
 unfold pkV
 split
 ·rw [Int.tmod_eq_emod_of_nonneg (by omega)]
  exact ⟨Int.emod_nonneg _ (by omega),Int.emod_lt_of_pos _ hn⟩
 ·rw [Int.tmod_eq_emod_of_nonneg (by omega)]
  exact ⟨Int.emod_nonneg _ (by omega),Int.emod_lt_of_pos _ hn⟩
theorem f45_eq (c n:Int) (hc:i64 c) (hn:0 < n):f45 c n = some (pkV c n,()):=by
 unfold i64 at hc
 unfold f45 pkV
 by_cases h:c < 0
 ·rw [dT h,if_pos h,dT (show n ≠ 0 by omega)]
  simp only [cond_true]
  rw [wrap_i64 (c + 1) (by omega) (by omega),wrap_i64 (0 - (c + 1)) (by omega) (by omega)]
  rw [show 0 - (c + 1) = -(c + 1) by omega]
 ·rw [dF h,if_neg h,dT (show n ≠ 0 by omega)]
  rfl
theorem f18_eq (c n:Int) (hc:i64 c) (hn:0 < n):f18 c n = some (pkV c n,()):=by
 unfold i64 at hc
 unfold f18 pkV
 by_cases h:c < 0
 ·rw [dT h,if_pos h,dT (show n ≠ 0 by omega)]
  simp only [cond_true]
  rw [wrap_i64 (c + 1) (by omega) (by omega),wrap_i64 (0 - (c + 1)) (by omega) (by omega)]
  rw [show 0 - (c + 1) = -(c + 1) by omega]
 ·rw [dF h,if_neg h,dT (show n ≠ 0 by omega)]
  rfl
theorem f76_eq (c n:Int) (hc:i64 c) (hn:0 < n):f76 c n = some (pkV c n,()):=by
 unfold i64 at hc
 unfold f76 pkV
 by_cases h:c < 0
 ·rw [dT h,if_pos h,dT (show n ≠ 0 by omega)]
  simp only [cond_true]
  rw [wrap_i64 (c + 1) (by omega) (by omega),wrap_i64 (0 - (c + 1)) (by omega) (by omega)]
  rw [show 0 - (c + 1) = -(c + 1) by omega]
 ·rw [dF h,if_neg h,dT (show n ≠ 0 by omega)]
  rfl
def idf (n:Int) (wide:Bool) (j:Nat):Int:=if wide = false∧pkV (IntKind.wrap .i64 (Int.tdiv n 8)) 2 = 1 then (j:Int) + ((j / 2:Nat):Int) else (j:Int)
theorem idf_lt (n:Int) (wide:Bool) (j:Nat):idf n wide j < idf n wide (j + 1):=by
 unfold idf
 split <;> omega
theorem made_verts (n:Int) (l:List (List Int)) (wide:Bool) (many:Nat) (hm:many≤18∧(wide = false→many≤8)):∀ (m k j:Nat) (acc:List Vx),many - j≤m→m < k→j≤many→acc.length = j→acc.Pairwise (fun a b=>a.1 < b.1)→(∀ v∈acc,v.1 < idf n wide j∧okV v = true) →
  ∃ vs,f12_l6 n l wide (many:Int) k (j:Int) acc = some ((n,l,(many:Int),()),(),((),(),vs,()))∧vs.length = many∧vs.Pairwise (fun a b=>a.1 < b.1)∧∀ v∈vs,okV v = true:=by
 intro m
 induction m with
 | zero =>
  intro k j acc h1 h2 h3 h4 h5 h6
  obtain ⟨k,rfl⟩:∃ q,k = q + 1:=⟨k - 1,by omega⟩
  refine ⟨acc,?_,by omega,h5,fun v hv=>(h6 v hv).2⟩
  unfold f12_l6
  rw [dF (by omega)]
  rfl
 | succ m ih =>
  intro k j acc h1 h2 h3 h4 h5 h6
  obtain ⟨k,rfl⟩:∃ q,k = q + 1:=⟨k - 1,by omega⟩
  by_cases hj:j < many
  ·have hu:=f12_l6.eq_2 n l wide (many:Int) (j:Int) acc k
   rw [dT (by omega),cond_true] at hu
   have step:∀ (s:Int),0≤s→s < 4→f12_l6 n l wide (many:Int) (k + 1) (j:Int) acc = (bif (decide (acc.length + ([(idf n wide j,s,())]:List Vx).length≤appLim)) then f12_l6 n l wide (many:Int) k (IntKind.wrap .i64 ((j:Int) + (1:Int))) (acc++([(idf n wide j,s,())]:List Vx)) else none) →
     ∃ vs,f12_l6 n l wide (many:Int) (k + 1) (j:Int) acc = some ((n,l,(many:Int),()),(),((),(),vs,()))∧vs.length = many∧vs.Pairwise (fun a b=>a.1 < b.1)∧∀ v∈vs,okV v = true:=by
    intro s hs1 hs2 he
    rw [appOk _ _ (by simp; omega),cond_true,wS j (by omega)] at he
    obtain ⟨vs,b1,b2⟩:=ih k (j + 1) (acc++[(idf n wide j,s,())]) (by omega) (by omega) (by omega) (by simp; omega) (by
     refine List.pairwise_append.2 ⟨h5,List.pairwise_singleton _ _,fun a ha b hb=>?_⟩
     rw [List.mem_singleton.1 hb]
     exact (h6 a ha).1) (by
     intro v hv
     have hlt:=idf_lt n wide j
     rcases List.mem_append.1 hv with hv | hv
     ·exact ⟨by have:=(h6 v hv).1; omega,(h6 v hv).2⟩
     ·rw [List.mem_singleton.1 hv]
      refine ⟨hlt,?_⟩
      unfold okV
      have hi:0≤idf n wide j∧idf n wide j≤23:=by
       unfold idf
       split
       ·rename_i hc
        have:=hm.2 hc.1
        omega
       ·omega
      simp only [Bool.and_eq_true,decide_eq_true_eq]
      omega)
    exact ⟨vs,he.trans b1,b2⟩
   have r3:=pkV_rng (IntKind.wrap .i64 (Int.tdiv n 64)) 3 (by omega)
   have side:∀ x:Int,f45 (IntKind.wrap .i64 x) 4 = some (pkV (IntKind.wrap .i64 x) 4,()):=fun x=>f45_eq _ 4 (wrap_rng _) (by omega)
   have p3:f45 (IntKind.wrap .i64 (Int.tdiv n 64)) 3 = _:=f45_eq _ 3 (wrap_rng _) (by omega)
   have p2:f45 (IntKind.wrap .i64 (Int.tdiv n 8)) 2 = _:=f45_eq _ 2 (wrap_rng _) (by omega)
   cases wide with
   | true =>
    have hi:idf n true j = (j:Int):=by unfold idf; rw [if_neg (fun h=>by cases h.1)]
    rw [← hi] at hu
    refine step (pkV (IntKind.wrap .i64 (IntKind.wrap .i64 (Int.tdiv n 16) + IntKind.wrap .i64 (idf n true j * IntKind.wrap .i64 (1 + pkV (IntKind.wrap .i64 (Int.tdiv n 64)) 3)))) 4) (pkV_rng _ 4 (by omega)).1 (pkV_rng _ 4 (by omega)).2 ?_
    rw [hi] at hu ⊢
    exact hu.trans (bind_step p3 (bind_step (side _) rfl))
   | false =>
    by_cases hc:pkV (IntKind.wrap .i64 (Int.tdiv n 8)) 2 = 1
    ·have hi:idf n false j = (j:Int) + ((j / 2:Nat):Int):=by unfold idf; rw [if_pos ⟨rfl,hc⟩]
     have w1:IntKind.wrap .i64 (Int.tdiv (j:Int) 2) = ((j / 2:Nat):Int):=by
      have:Int.tdiv (j:Int) 2 = ((j / 2:Nat):Int):=rfl
      rw [this,wrap_i64 _ (by omega) (by omega)]
     have w2:IntKind.wrap .i64 ((j:Int) + ((j / 2:Nat):Int)) = (j:Int) + ((j / 2:Nat):Int):=wrap_i64 _ (by omega) (by omega)
     refine step (pkV (IntKind.wrap .i64 (IntKind.wrap .i64 (Int.tdiv n 16) + IntKind.wrap .i64 ((j:Int) * IntKind.wrap .i64 (1 + pkV (IntKind.wrap .i64 (Int.tdiv n 64)) 3)))) 4) (pkV_rng _ 4 (by omega)).1 (pkV_rng _ 4 (by omega)).2 ?_
     rw [hi]
     refine hu.trans (bind_step p2 ?_)
     simp only [hc,decide_true,cond_true]
     refine bind_step p3 (bind_step (side _) ?_)
     simp only [w1,w2]
    ·have hi:idf n false j = (j:Int):=by unfold idf; rw [if_neg (fun h=>hc h.2)]
     refine step (pkV (IntKind.wrap .i64 (IntKind.wrap .i64 (Int.tdiv n 16) + IntKind.wrap .i64 ((j:Int) * IntKind.wrap .i64 (1 + pkV (IntKind.wrap .i64 (Int.tdiv n 64)) 3)))) 4) (pkV_rng _ 4 (by omega)).1 (pkV_rng _ 4 (by omega)).2 ?_
     rw [hi]
     refine hu.trans (bind_step p2 ?_)
     simp only [hc,decide_false,cond_false]
     exact bind_step p3 (bind_step (side _) rfl)
  ·refine ⟨acc,?_,by omega,h5,fun v hv=>(h6 v hv).2⟩
   unfold f12_l6
   rw [dF (by omega)]
   rfl
theorem at_rng (l:List (List Int)) (hl:∀ r∈l,∀ x∈r,i64 x) (j:Nat) (c:Int):i64 (at_ tI (at_ (.arr 5 tI) l (j:Int)) c):=by
 have h0:i64 0:=by unfold i64; omega
 have key:∀ r:List Int,(∀ x∈r,i64 x)→i64 (at_ tI r c):=by
  intro r hr
  unfold at_
  rw [List.getD_eq_getElem?_getD]
  cases h:r[c.toNat]? with
  | none=>exact h0
  | some x=>exact hr x (List.mem_of_getElem? h)
 refine key _ ?_
 intro x hx
 unfold at_ at hx
 rw [List.getD_eq_getElem?_getD] at hx
 cases h:l[(j:Int).toNat]? with
 | none =>
  rw [h] at hx
  have:x∈List.replicate 5 (0:Int):=hx
  rw [(List.mem_replicate.1 this).2]
  exact h0
 | some r =>
  rw [h] at hx
  exact hl r (List.mem_of_getElem? h) x hx
theorem made_edges (n:Int) (l:List (List Int)) (hl:∀ r∈l,∀ x∈r,i64 x) (hll:l.length≤9223372036854775807) (vs:List Vx) (hv0:0 < vs.length) (hvs:∀ v∈vs,okV v = true) (hv9:vs.length≤1000):∀ (m k j:Nat) (acc:List Ed),l.length - j≤m→m < k→j≤20→acc.length≤j→acc.Pairwise (fun a b=>a.1 < b.1)→(∀ e∈acc,e.1 < (j:Int) + pkV (IntKind.wrap .i64 (Int.tdiv n 4)) 20∧okE e = true∧hasV vs e.2.1 = true∧hasV vs e.2.2.1 = true) →
  ∃ es,f12_l13 n l (vs.length:Int) vs k (j:Int) acc = some ((n,(vs.length:Int),()),(),((),(),vs,es,()))∧es.Pairwise (fun a b=>a.1 < b.1)∧∀ e∈es,okE e = true∧hasV vs e.2.1 = true∧hasV vs e.2.2.1 = true:=by
 intro m
 induction m with
 | zero =>
  intro k j acc h1 h2 h3 h4 h5 h6
  obtain ⟨k,rfl⟩:∃ q,k = q + 1:=⟨k - 1,by omega⟩
  refine ⟨acc,?_,h5,fun e he=>(h6 e he).2⟩
  unfold f12_l13
  rw [dF (by omega)]
  rfl
 | succ m ih =>
  intro k j acc h1 h2 h3 h4 h5 h6
  obtain ⟨k,rfl⟩:∃ q,k = q + 1:=⟨k - 1,by omega⟩
  by_cases hj:j < l.length
  ·by_cases h20:j < 20
   ·have hu:=f12_l13.eq_2 n l (vs.length:Int) vs (j:Int) acc k
    have rng (c:Int):=at_rng l hl j c
    have i5:∀ c:Nat,c < 5→inR (c:Int) 5 = true:=fun c hc=>by rw [inRN,dT hc]
    have q0:inR (0:Int) 5 = true:=i5 0 (by omega)
    have q1:inR (1:Int) 5 = true:=i5 1 (by omega)
    have q2:inR (2:Int) 5 = true:=i5 2 (by omega)
    have q3:inR (3:Int) 5 = true:=i5 3 (by omega)
    have q4:inR (4:Int) 5 = true:=i5 4 (by omega)
    rw [dT (show (j:Int) < (l.length:Int) by omega),cond_true,dT (show (j:Int) < 20 by omega),cond_true] at hu
    simp only [inRN,dT hj,cond_true,q0,q1,q2,q3,q4,wS j (by omega)] at hu
    have b:=pkV_rng (IntKind.wrap .i64 (Int.tdiv n 4)) 20 (by omega)
    have p27:=f45_eq _ 20 (wrap_rng (Int.tdiv n 4)) (by omega)
    have hmany:(0:Int) < (vs.length:Int):=by omega
    have p29:=f45_eq _ (vs.length:Int) (rng 0) hmany
    have p32:=f45_eq _ (vs.length:Int) (rng 1) hmany
    have p35:=f45_eq _ 2 (rng 2) (by omega)
    have p37:=f45_eq _ 12 (rng 3) (by omega)
    have p39:=f45_eq _ 6 (rng 4) (by omega)
    have p41:=f45_eq _ 11 (rng 4) (by omega)
    have p43:=f45_eq _ 2001 (rng 3) (by omega)
    have end_ok:∀ c:Int,∃ i:Nat,∃ h:i < vs.length,pkV (at_ tI (at_ (.arr 5 tI) l (j:Int)) c) (vs.length:Int) = (i:Int)∧hasV vs vs[i].1 = true∧0≤vs[i].1∧vs[i].1≤23∧at_ tV vs (i:Int) = vs[i]:=by
     intro c
     have r:=pkV_rng (at_ tI (at_ (.arr 5 tI) l (j:Int)) c) (vs.length:Int) hmany
     generalize pkV (at_ tI (at_ (.arr 5 tI) l (j:Int)) c) (vs.length:Int) = y at r
     have hi:y.toNat < vs.length:=by omega
     have ho:=hvs _ (List.getElem_mem hi)
     unfold okV at ho
     simp only [Bool.and_eq_true,decide_eq_true_eq] at ho
     exact ⟨y.toNat,hi,by omega,hasV_of (List.getElem_mem hi),by omega,by omega,atN tV vs y.toNat hi⟩
    obtain ⟨i0,hi0,e0,s0,s1,s2,s3⟩:=end_ok 0
    obtain ⟨i1,hi1,e1,t0,t1,t2,t3⟩:=end_ok 1
    rw [e0] at p29
    rw [e1] at p32
    have w:IntKind.wrap .i64 ((j:Int) + pkV (IntKind.wrap .i64 (Int.tdiv n 4)) 20) = (j:Int) + pkV (IntKind.wrap .i64 (Int.tdiv n 4)) 20:=wrap_i64 _ (by omega) (by omega)
    have step:∀ (d:Bool) (y z:Int),-1000≤y→y≤1000→0≤z→z < 6→f12_l13 n l (vs.length:Int) vs (k + 1) (j:Int) acc = (bif (decide (acc.length + ([((j:Int) + pkV (IntKind.wrap .i64 (Int.tdiv n 4)) 20,vs[i0].1,vs[i1].1,d,y,z,())]:List Ed).length≤appLim)) then f12_l13 n l (vs.length:Int) vs k ((j + 1:Nat):Int) (acc++([((j:Int) + pkV (IntKind.wrap .i64 (Int.tdiv n 4)) 20,vs[i0].1,vs[i1].1,d,y,z,())]:List Ed)) else none) →
      ∃ es,f12_l13 n l (vs.length:Int) vs (k + 1) (j:Int) acc = some ((n,(vs.length:Int),()),(),((),(),vs,es,()))∧es.Pairwise (fun a b=>a.1 < b.1)∧∀ e∈es,okE e = true∧hasV vs e.2.1 = true∧hasV vs e.2.2.1 = true:=by
     intro d y z hy1 hy2 hz1 hz2 he
     rw [appOk _ _ (by simp; omega),cond_true] at he
     obtain ⟨es,b1,b2⟩:=ih k (j + 1) (acc++[((j:Int) + pkV (IntKind.wrap .i64 (Int.tdiv n 4)) 20,vs[i0].1,vs[i1].1,d,y,z,())]) (by omega) (by omega) (by omega) (by simp; omega) (by
      refine List.pairwise_append.2 ⟨h5,List.pairwise_singleton _ _,fun a ha b hb=>?_⟩
      rw [List.mem_singleton.1 hb]
      exact (h6 a ha).1) (by
      intro e he'
      rcases List.mem_append.1 he' with he' | he'
      ·have:=h6 e he'
       exact ⟨by omega,this.2⟩
      ·rw [List.mem_singleton.1 he']
       refine ⟨by show (j:Int) + _ < _; omega,?_,s0,t0⟩
       unfold okE
       simp only [Bool.and_eq_true,decide_eq_true_eq]
       omega)
     exact ⟨es,he.trans b1,b2⟩
    have z6:=pkV_rng (at_ tI (at_ (.arr 5 tI) l (j:Int)) 4) 6 (by omega)
    have y12:=pkV_rng (at_ tI (at_ (.arr 5 tI) l (j:Int)) 3) 12 (by omega)
    have y2001:=pkV_rng (at_ tI (at_ (.arr 5 tI) l (j:Int)) 3) 2001 (by omega)
    by_cases hc:pkV (at_ tI (at_ (.arr 5 tI) l (j:Int)) 4) 11 = 10
    ·refine step (decide (pkV (at_ tI (at_ (.arr 5 tI) l (j:Int)) 2) 2 = 1)) (pkV (at_ tI (at_ (.arr 5 tI) l (j:Int)) 3) 2001 - 1000) _ (by omega) (by omega) z6.1 z6.2 ?_
     refine hu.trans (bind_step p27 (bind_step p29 ?_))
     simp only [inRN,dT hi0,cond_true]
     refine bind_step p32 ?_
     simp only [inRN,dT hi1,cond_true]
     refine bind_step p35 (bind_step p37 (bind_step p39 (bind_step p41 ?_)))
     simp only [hc,decide_true,cond_true]
     refine bind_step p43 ?_
     simp only [w,s3,t3]
     rw [wrap_i64 (pkV (at_ tI (at_ (.arr 5 tI) l (j:Int)) 3) 2001 - 1000) (by omega) (by omega)]
    ·refine step (decide (pkV (at_ tI (at_ (.arr 5 tI) l (j:Int)) 2) 2 = 1)) (pkV (at_ tI (at_ (.arr 5 tI) l (j:Int)) 3) 12 - 3) _ (by omega) (by omega) z6.1 z6.2 ?_
     refine hu.trans (bind_step p27 (bind_step p29 ?_))
     simp only [inRN,dT hi0,cond_true]
     refine bind_step p32 ?_
     simp only [inRN,dT hi1,cond_true]
     refine bind_step p35 (bind_step p37 (bind_step p39 (bind_step p41 ?_)))
     simp only [hc,decide_false,cond_false,w,s3,t3]
     rw [wrap_i64 (pkV (at_ tI (at_ (.arr 5 tI) l (j:Int)) 3) 12 - 3) (by omega) (by omega)]
   ·refine ⟨acc,?_,h5,fun e he=>(h6 e he).2⟩
    unfold f12_l13
    rw [dT (show (j:Int) < (l.length:Int) by omega),cond_true,dF (show ¬ (j:Int) < 20 by omega)]
    rfl
  ·refine ⟨acc,?_,h5,fun e he=>(h6 e he).2⟩
   unfold f12_l13
   rw [dF (by omega)]
   rfl
theorem made_dues (n:Int) (vs:List Vx) (hv9:vs.length≤1000) (es:List Ed):∀ (m k j:Nat) (acc:List Int),vs.length - j≤m→m < k→j≤3→acc = (vs.map (·.1)).take j→j≤vs.length →
  ∃ i,i≤3∧f12_l20 n (vs.length:Int) vs es k (j:Int) acc = some ((),(),((),(),vs,es,(vs.map (·.1)).take i,())):=by
 intro m
 induction m with
 | zero =>
  intro k j acc h1 h2 h3 h4 h5
  obtain ⟨k,rfl⟩:∃ q,k = q + 1:=⟨k - 1,by omega⟩
  have hu:=f12_l20.eq_2 n (vs.length:Int) vs es (j:Int) acc k
  have p:=f45_eq _ 4 (wrap_rng (Int.tdiv n 32)) (by omega)
  refine ⟨j,h3,hu.trans (bind_step p ?_)⟩
  subst h4
  cases hc:decide ((j:Int) < pkV (IntKind.wrap .i64 (Int.tdiv n 32)) 4) with
  | false=>rfl
  | true =>
   rw [cond_true,dF (by omega)]
   rfl
 | succ m ih =>
  intro k j acc h1 h2 h3 h4 h5
  obtain ⟨k,rfl⟩:∃ q,k = q + 1:=⟨k - 1,by omega⟩
  have hu:=f12_l20.eq_2 n (vs.length:Int) vs es (j:Int) acc k
  have p:=f45_eq _ 4 (wrap_rng (Int.tdiv n 32)) (by omega)
  have r:=pkV_rng (IntKind.wrap .i64 (Int.tdiv n 32)) 4 (by omega)
  by_cases c1:(j:Int) < pkV (IntKind.wrap .i64 (Int.tdiv n 32)) 4
  ·by_cases c2:j < vs.length
   ·have hget:at_ tV vs (j:Int) = vs[j]:=atN tV vs j c2
    have hl:acc.length≤10:=by subst h4; simp; omega
    obtain ⟨i,hi,b1⟩:=ih k (j + 1) (acc++[vs[j].1]) (by omega) (by omega) (by omega) (by
     subst h4
     rw [List.take_succ_eq_append_getElem (by simpa using c2)]
     simp) (by omega)
    refine ⟨i,hi,hu.trans (bind_step p ?_)⟩
    show (bif decide ((j:Int) < pkV (IntKind.wrap .i64 (Int.tdiv n 32)) 4) then (bif decide ((j:Int) < (vs.length:Int)) then (bif inR (j:Int) vs.length then (bif (decide (acc.length + ([(at_ tV vs (j:Int)).1]:List Int).length≤appLim)) then f12_l20 n (vs.length:Int) vs es k (IntKind.wrap .i64 ((j:Int) + (1:Int))) (acc++([(at_ tV vs (j:Int)).1]:List Int)) else none) else none) else _) else _) = _
    rw [dT c1,cond_true,dT (show (j:Int) < (vs.length:Int) by omega),cond_true,inRN,dT c2,hget,cond_true,appOk _ _ (by simp; omega),wS j (by omega)]
    exact b1
   ·refine ⟨j,h3,hu.trans (bind_step p ?_)⟩
    subst h4
    rw [dT c1,cond_true,dF (by omega)]
    rfl
  ·refine ⟨j,h3,hu.trans (bind_step p ?_)⟩
   subst h4
   rw [dF c1]
   rfl
theorem made_valid (n:Int) (l:List (List Int)) (wide:Bool) (hn:i64 n) (hl:∀ r∈l,∀ x∈r,i64 x) (hll:l.length≤9223372036854775807):∃ vs es ds,f12 n l wide = some ((vs,es,ds,()),())∧valid (vs,es,ds,()) = true∧0 < vs.length:=by
 have p1:=f45_eq n 8 hn (by omega)
 have r1:=pkV_rng n 8 (by omega)
 have main:∀ many:Nat,0 < many→many≤18∧(wide = false→many≤8)→∃ vs es ds,
   ((f12_l6 n l wide (many:Int) (((many:Int) - (0:Int)).toNat + 1) (0:Int) []).bind fun o21 =>
    (f12_l13 o21.1.1 o21.1.2.1 o21.1.2.2.1 o21.2.2.2.2.1 (((o21.1.2.1.length:Int) - (0:Int)).toNat + 1) (0:Int) []).bind fun o45 =>
    (f12_l20 o45.1.1 o45.1.2.1 o45.2.2.2.2.1 o45.2.2.2.2.2.1 ((o45.1.2.1 - (0:Int)).toNat + 1) (0:Int) []).bind fun o53 =>
    some ((o53.2.2.2.2.1,(o53.2.2.2.2.2.1,(o53.2.2.2.2.2.2.1,()))),())) = some ((vs,es,ds,()),())∧valid (vs,es,ds,()) = true∧0 < vs.length:=by
  intro many hm0 hm
  obtain ⟨vs,a1,a2,a3,a4⟩:=made_verts n l wide many hm many (((many:Int) - (0:Int)).toNat + 1) 0 [] (by omega) (by omega) (by omega) rfl List.Pairwise.nil (fun v hv=>by simp at hv)
  obtain ⟨es,b1,b2,b3⟩:=made_edges n l hl hll vs (by omega) a4 (by omega) l.length (((l.length:Int) - (0:Int)).toNat + 1) 0 [] (by omega) (by omega) (by omega) (by simp) List.Pairwise.nil (fun v hv=>by simp at hv)
  obtain ⟨i,hi,c1⟩:=made_dues n vs (by omega) es vs.length (((vs.length:Int) - (0:Int)).toNat + 1) 0 [] (by omega) (by omega) (by omega) (by simp) (by omega)
  refine ⟨vs,es,(vs.map (·.1)).take i,bind_step a1 ?_,?_,by omega⟩
  ·rw [← a2]
   refine bind_step b1 ?_
   refine bind_step c1 ?_
   rfl
  ·unfold valid
   have d1:asc kV vs = true:=(asc_pairwise kV).2 a3
   have d2:asc kE es = true:=(asc_pairwise kE).2 b2
   have d3:asc kI ((vs.map (·.1)).take i) = true:=(asc_pairwise kI).2 ((List.pairwise_map.2 a3).sublist (List.take_sublist _ _))
   have d4:((vs.map (·.1)).take i).length≤3:=by rw [List.length_take]; omega
   have d5:((vs.map (·.1)).take i).all (hasV vs) = true:=List.all_eq_true.2 fun d hd=>by
    obtain ⟨v,hv,h1⟩:=List.mem_map.1 (List.mem_of_mem_take hd)
    rw [← h1]
    exact hasV_of hv
   simp only [d1,d2,d3,d5,dT d4,Bool.true_and,Bool.and_true,Bool.and_eq_true,List.all_eq_true]
   exact ⟨a4,fun e he=>⟨⟨(b3 e he).1,(b3 e he).2.1⟩,(b3 e he).2.2⟩⟩
 unfold f12
 cases wide with
 | true =>
  obtain ⟨vs,es,ds,h1,h2⟩:=main (1 + (pkV n 8).toNat + 10) (by omega) ⟨by omega,fun h=>by cases h⟩
  refine ⟨vs,es,ds,bind_step p1 ?_,h2⟩
  have w1:IntKind.wrap .i64 (1 + pkV n 8) = 1 + pkV n 8:=wrap_i64 _ (by omega) (by omega)
  have w2:IntKind.wrap .i64 (1 + pkV n 8 + 10) = ((1 + (pkV n 8).toNat + 10:Nat):Int):=by rw [wrap_i64 _ (by omega) (by omega)]; omega
  simp only [cond_true,w1,w2]
  exact h1
 | false =>
  obtain ⟨vs,es,ds,h1,h2⟩:=main (1 + (pkV n 8).toNat) (by omega) ⟨by omega,fun _=>by omega⟩
  refine ⟨vs,es,ds,bind_step p1 ?_,h2⟩
  have w1:IntKind.wrap .i64 (1 + pkV n 8) = ((1 + (pkV n 8).toNat:Nat):Int):=by rw [wrap_i64 _ (by omega) (by omega)]; omega
  simp only [cond_false,w1]
  exact h1
theorem i64_of {x:Int} (h:(Ty.int .i64).ok x):i64 x:=h
theorem rows_of {l:List (List Int)} {n:Nat} (h:(Ty.sl (.arr n tI)).ok l):l.length≤9223372036854775807∧∀ r∈l,∀ x∈r,i64 x:=by
 refine ⟨Nat.le_trans h.1 (Nat.le_of_ble_eq_true (by kernel_rfl)),fun r hr x hx=>?_⟩
 exact i64_of ((h.2 r hr).2 x hx)
end Go.V.G
namespace Go.V.G
open Go.Proofs
theorem valid_ok {vs es ds} (h:Ok vs es ds):valid (vs,es,ds,()) = true:=by
 unfold valid
 have a1:vs.all okV = true:=List.all_eq_true.2 fun v hv=>by
  have:=h.okv v hv
  unfold okV
  simp only [Bool.and_eq_true,decide_eq_true_eq]
  omega
 have a2:es.all (fun e=>okE e && hasV vs e.2.1 && hasV vs e.2.2.1) = true:=List.all_eq_true.2 fun e he=>by
  rw [h.oke e he,h.hs e he,h.ht e he]; rfl
 have a3:ds.all (hasV vs) = true:=List.all_eq_true.2 h.hd
 show (asc kV vs && asc kE es && vs.all okV && es.all (fun e=>okE e && hasV vs e.2.1 && hasV vs e.2.2.1) && decide (ds.length≤3) && asc kI ds && ds.all (hasV vs)) = true
 rw [h.av,h.ae,a1,a2,dT h.dl,h.ad,a3]; rfl
theorem hasV_iff {vs:List Vx} {id:Int}:hasV vs id = true ↔ ∃ v∈vs,v.1 = id:=by
 unfold hasV
 rw [List.any_eq_true]
 exact ⟨fun ⟨v,h1,h2⟩=>⟨v,h1,by simpa using h2⟩,fun ⟨v,h1,h2⟩=>⟨v,h1,by simpa using h2⟩⟩
theorem ins_asc {α:Type} (f:α→Int) (l:List α) (a:α) (i:Nat) (hl:asc f l = true) (h1:∀ x∈l.take i,f x < f a) (h2:∀ x∈l.drop i,f a < f x):asc f (l.take i++([a]++l.drop i)) = true:=by
 rw [asc_pairwise] at hl ⊢
 rw [← List.take_append_drop i l,List.pairwise_append] at hl
 obtain ⟨p1,p2,p3⟩:=hl
 rw [List.pairwise_append]
 refine ⟨p1,?_,?_⟩
 ·show (a :: l.drop i).Pairwise _
  rw [List.pairwise_cons]
  exact ⟨h2,p2⟩
 ·intro x hx y hy
  rcases List.mem_cons.1 (show y∈a :: l.drop i from hy) with rfl | hy
  ·exact h1 x hx
  ·exact p3 x hx y hy
theorem mem_ins {α:Type} (l:List α) (a:α) (i:Nat) (x:α):x∈l.take i++([a]++l.drop i) ↔ x = a ∨ x∈l:=by
 conv=>rhs; rw [← List.take_append_drop i l]
 simp only [List.mem_append,List.mem_singleton]
 constructor
 ·rintro (h | h | h)
  ·exact .inr (.inl h)
  ·exact .inl h
  ·exact .inr (.inr h)
 ·rintro (h | h | h)
  ·exact .inr (.inl h)
  ·exact .inl h
  ·exact .inr (.inr h)
theorem place_asc {α:Type} (f:α→Int) (l:List α) (n:Int) (i:Nat) (hi:i≤l.length) (hl:asc f l = true) (hn:∀ x∈l,f x ≠ n) (h1:∀ j (h:j < l.length),j < i→f l[j] < n) (h2:∀ (h:i < l.length),n≤f l[i]) :
  (∀ x∈l.take i,f x < n)∧(∀ x∈l.drop i,n < f x):=by
 refine ⟨fun x hx=>?_,fun x hx=>?_⟩
 ·obtain ⟨j,hj,rfl⟩:=List.getElem_of_mem hx
  rw [List.getElem_take]
  rw [List.length_take] at hj
  exact h1 j (by omega) (by omega)
 ·by_cases h:i < l.length
  ·have hp:=(asc_pairwise f).1 hl
   rw [← List.take_append_drop i l,List.pairwise_append] at hp
   have hd:=hp.2.1
   rw [List.drop_eq_getElem_cons h] at hd hx
   rcases List.mem_cons.1 hx with rfl | hx
   ·have:=h2 h
    have:=hn l[i] (List.getElem_mem h)
    omega
   ·have h3:=(List.pairwise_cons.1 hd).1 x hx
    have:=h2 h
    omega
  ·rw [List.drop_of_length_le (by omega)] at hx
   cases hx
theorem del_sub {α:Type} (l:List α) (i:Nat):(l.take i++l.drop (i + 1)).Sublist l:=by
 rw [← List.eraseIdx_eq_take_drop_succ]
 exact List.eraseIdx_sublist _ _
theorem del_asc {α:Type} (f:α→Int) (l:List α) (i:Nat) (hl:asc f l = true):asc f (l.take i++l.drop (i + 1)) = true:=by
 rw [asc_pairwise] at hl ⊢
 exact hl.sublist (del_sub l i)
theorem hasV_del {vs:List Vx} {i:Nat} (hi:i < vs.length) {id:Int} (h:hasV vs id = true) (hne:id ≠ vs[i].1):hasV (vs.take i++vs.drop (i + 1)) id = true:=by
 obtain ⟨v,hv,rfl⟩:=hasV_iff.1 h
 refine hasV_iff.2 ⟨v,?_,rfl⟩
 rw [← List.take_append_drop i vs,List.mem_append,List.drop_eq_getElem_cons hi,List.mem_cons] at hv
 rw [List.mem_append]
 rcases hv with hv | rfl | hv
 ·exact .inl hv
 ·exact absurd rfl hne
 ·exact .inr hv
theorem Ok.add_v {vs es ds} (h:Ok vs es ds) (v:Vx) (hv:okV v = true) (hn:hasV vs v.1 = false) (i:Nat) (hi:i≤vs.length) (h1:∀ j (h:j < vs.length),j < i→kV vs[j] < v.1) (h2:∀ (h:i < vs.length),v.1≤kV vs[i]):Ok (vs.take i++([v]++vs.drop i)) es ds:=by
 have hne:∀ x∈vs,kV x ≠ v.1:=fun x hx e=>by
  have:=hasV_iff.2 ⟨x,hx,e⟩
  rw [hn] at this
  cases this
 obtain ⟨p1,p2⟩:=place_asc kV vs v.1 i hi h.av hne h1 h2
 have up:∀ id,hasV vs id = true→hasV (vs.take i++([v]++vs.drop i)) id = true:=fun id hid=>by
  obtain ⟨x,hx,e⟩:=hasV_iff.1 hid
  exact hasV_iff.2 ⟨x,(mem_ins _ _ _ _).2 (.inr hx),e⟩
 refine ⟨ins_asc kV vs v i h.av p1 p2,h.ae,h.ad,fun x hx=>?_,h.oke,fun e he=>up _ (h.hs e he),fun e he=>up _ (h.ht e he),h.dl,fun d hd=>up _ (h.hd d hd)⟩
 rcases (mem_ins _ _ _ _).1 hx with rfl | hx
 ·unfold okV at hv
  simp only [Bool.and_eq_true,decide_eq_true_eq] at hv
  omega
 ·exact h.okv x hx
theorem Ok.del_v {vs es ds} (h:Ok vs es ds) (i:Nat) (hi:i < vs.length) (h1:∀ e∈es,e.2.1 ≠ vs[i].1∧e.2.2.1 ≠ vs[i].1) (h2:∀ d∈ds,d ≠ vs[i].1):Ok (vs.take i++vs.drop (i + 1)) es ds :=
 ⟨del_asc kV vs i h.av,h.ae,h.ad,fun v hv=>h.okv v ((del_sub vs i).subset hv),h.oke,fun e he=>hasV_del hi (h.hs e he) (h1 e he).1,fun e he=>hasV_del hi (h.ht e he) (h1 e he).2,h.dl,fun d hd=>hasV_del hi (h.hd d hd) (h2 d hd)⟩
theorem Ok.add_e {vs es ds} (h:Ok vs es ds) (v:Ed) (hv:okE v = true) (hs:hasV vs v.2.1 = true) (ht:hasV vs v.2.2.1 = true) (hn:∀ e∈es,e.1 ≠ v.1) (i:Nat) (hi:i≤es.length) (h1:∀ j (h:j < es.length),j < i→kE es[j] < v.1) (h2:∀ (h:i < es.length),v.1≤kE es[i]):Ok vs (es.take i++([v]++es.drop i)) ds:=by
 obtain ⟨p1,p2⟩:=place_asc kE es v.1 i hi h.ae hn h1 h2
 have k:∀ {p:Ed→Prop},(∀ e∈es,p e)→p v→∀ e∈es.take i++([v]++es.drop i),p e:=fun a b e he=>by
  rcases (mem_ins _ _ _ _).1 he with rfl | he
  ·exact b
  ·exact a e he
 exact ⟨h.av,ins_asc kE es v i h.ae p1 p2,h.ad,h.okv,k h.oke hv,k h.hs hs,k h.ht ht,h.dl,h.hd⟩
theorem Ok.del_e {vs es ds} (h:Ok vs es ds) (i:Nat):Ok vs (es.take i++es.drop (i + 1)) ds :=
 ⟨h.av,del_asc kE es i h.ae,h.ad,h.okv,fun e he=>h.oke e ((del_sub es i).subset he),fun e he=>h.hs e ((del_sub es i).subset he),fun e he=>h.ht e ((del_sub es i).subset he),h.dl,h.hd⟩
theorem Ok.map_e {vs es es' ds} (h:Ok vs es ds) (hid:es'.map kE = es.map kE) (he:∀ e∈es',okE e = true∧hasV vs e.2.1 = true∧hasV vs e.2.2.1 = true):Ok vs es' ds:=by
 refine ⟨h.av,?_,h.ad,h.okv,fun e q=>(he e q).1,fun e q=>(he e q).2.1,fun e q=>(he e q).2.2,h.dl,h.hd⟩
 have:=(asc_pairwise kE).1 h.ae
 rw [asc_pairwise]
 rw [← List.pairwise_map (f:=kE) (R:=fun a b:Int=>a < b)] at this ⊢
 rw [hid]
 exact this
theorem Ok.set_e {vs es ds} (h:Ok vs es ds) (i:Nat) (hi:i < es.length) (x:Ed) (hx:x.1 = es[i].1) (h1:okE x = true) (h2:hasV vs x.2.1 = true) (h3:hasV vs x.2.2.1 = true):Ok vs (es.set i x) ds:=by
 refine h.map_e ?_ fun e he=>?_
 ·rw [List.map_set]
  refine List.ext_getElem (by simp) fun j q1 q2=>?_
  rw [List.getElem_set]
  split
  ·rename_i e; subst e; simpa using hx
  ·rfl
 ·rcases List.mem_or_eq_of_mem_set he with he | rfl
  ·exact ⟨h.oke e he,h.hs e he,h.ht e he⟩
  ·exact ⟨h1,h2,h3⟩
theorem Ok.set_v {vs es ds} (h:Ok vs es ds) (i:Nat) (hi:i < vs.length) (x:Vx) (hx:x.1 = vs[i].1) (h1:0≤x.2.1∧x.2.1≤3):Ok (vs.set i x) es ds:=by
 have hm:(vs.set i x).map kV = vs.map kV:=by
  rw [List.map_set]
  refine List.ext_getElem (by simp) fun j q1 q2=>?_
  rw [List.getElem_set]
  split
  ·rename_i e; subst e; simpa using hx
  ·rfl
 have up:∀ id,hasV (vs.set i x) id = hasV vs id:=fun id=>by
  have:∀ l:List Vx,hasV l id = (l.map kV).any (fun n=>decide (n = id)):=fun l=>by unfold hasV; rw [List.any_map]; rfl
  rw [this,this,hm]
 refine ⟨?_,h.ae,h.ad,fun v hv=>?_,h.oke,fun e he=>by rw [up]; exact h.hs e he,fun e he=>by rw [up]; exact h.ht e he,h.dl,fun d hd=>by rw [up]; exact h.hd d hd⟩
 ·have:=(asc_pairwise kV).1 h.av
  rw [asc_pairwise]
  rw [← List.pairwise_map (f:=kV) (R:=fun a b:Int=>a < b)] at this ⊢
  rw [hm]
  exact this
 ·rcases List.mem_or_eq_of_mem_set hv with hv | rfl
  ·exact h.okv v hv
  ·have:=h.okv _ (List.getElem_mem hi)
   omega
end Go.V.G
namespace Go.V.G
open Go.Proofs
def f42_l11_head:Ann:={ env:=[(2,cP 2),(3,cP 3),(4,cP 4),(5,cP 5),(6,TI),(7,TI),(8,TI),(9,TI)],bxs:=[(2,.var [.ty (.sl tV),.ty (.sl tE),.ty (.sl tI)]),(3,.var [.ty (.arr 6 tI)]),(4,.var [TI,TI,TI,TI,TI,TI,.ty .bool,TI,TI,TI,TI,.cst .nils,.cst .nils]),(5,.var [TI,TI,TI,TI,TI,TI,.ty .bool,TI,TI,TI,TI,.cst .nils,.cst .nils])] }
def f42_l11_outs:List (Ex × Ann):=[((.exit 0),{ env:=[(2,cP 2),(3,cP 3),(4,cP 4),(5,cP 5),(6,TI),(7,TI),(8,TI),(9,TI)],bxs:=[(2,.var [.ty (.sl tV),.ty (.sl tE),.ty (.sl tI)]),(3,.var [.ty (.arr 6 tI)]),(4,.var [TI,TI,TI,TI,TI,TI,.ty .bool,TI,TI,TI,TI,.cst .nils,.cst .nils]),(5,.var [TI,TI,TI,TI,TI,TI,.ty .bool,TI,TI,TI,TI,.cst .nils,.cst .nils])] })]
def f42_l11 (t6:Int) (t7:Int) (t8:Int) (b2g0:(List Vx)) (b2g1:(List Ed)) (b2g2:(List Int)) (b3g0:(List Int)) (b4g0:Int) (b4g1:Int) (b4g2:Int) (b4g3:Int) (b4g4:Int) (b4g5:Int) (b4g6:Bool) (b4g7:Int) (b4g8:Int) (b4g9:Int) (b4g10:Int) (b5g0:Int) (b5g1:Int) (b5g2:Int) (b5g3:Int) (b5g4:Int) (b5g5:Int) (b5g6:Bool) (b5g7:Int) (b5g8:Int) (b5g9:Int) (b5g10:Int):Nat→Int→Option (outDen f42_l11_outs)
 | 0,_=>none
 | k + 1,t9 =>
 (f55 (b2g0,(b2g1,(b2g2,()))) t9).bind fun y16 =>
 bif (decide (y16.1 ≥ (0:Int))) then
 let v17:Bool:=(decide ((b2g0.length:Int) < (24:Int)))
 bif v17 then
 let v18:Int:=(Int.tmod (IntKind.wrap .i64 (t9 + 1)) (24:Int))
 f42_l11 t6 t7 t8 b2g0 b2g1 b2g2 b3g0 b4g0 b4g1 b4g2 b4g3 b4g4 b4g5 b4g6 b4g7 b4g8 b4g9 b4g10 b5g0 b5g1 b5g2 b5g3 b5g4 b5g5 b5g6 b5g7 b5g8 b5g9 b5g10 k v18
 else
 some ((t6,t7,t8,t9,()),(),((b2g0,b2g1,b2g2,()),(b3g0,()),(b4g0,b4g1,b4g2,b4g3,b4g4,b4g5,b4g6,b4g7,b4g8,b4g9,b4g10,()),(b5g0,b5g1,b5g2,b5g3,b5g4,b5g5,b5g6,b5g7,b5g8,b5g9,b5g10,()),()))
 else
 some ((t6,t7,t8,t9,()),(),((b2g0,b2g1,b2g2,()),(b3g0,()),(b4g0,b4g1,b4g2,b4g3,b4g4,b4g5,b4g6,b4g7,b4g8,b4g9,b4g10,()),(b5g0,b5g1,b5g2,b5g3,b5g4,b5g5,b5g6,b5g7,b5g8,b5g9,b5g10,()),()))
def f42_l11_n (n:Nat) (x:f42_l11_head.den):=f42_l11 x.1.1 x.1.2.1 x.1.2.2.1 x.2.2.1.1 x.2.2.1.2.1 x.2.2.1.2.2.1 x.2.2.2.1.1 x.2.2.2.2.1.1 x.2.2.2.2.1.2.1 x.2.2.2.2.1.2.2.1 x.2.2.2.2.1.2.2.2.1 x.2.2.2.2.1.2.2.2.2.1 x.2.2.2.2.1.2.2.2.2.2.1 x.2.2.2.2.1.2.2.2.2.2.2.1 x.2.2.2.2.1.2.2.2.2.2.2.2.1 x.2.2.2.2.1.2.2.2.2.2.2.2.2.1 x.2.2.2.2.1.2.2.2.2.2.2.2.2.2.1 x.2.2.2.2.1.2.2.2.2.2.2.2.2.2.2.1 x.2.2.2.2.2.1.1 x.2.2.2.2.2.1.2.1 x.2.2.2.2.2.1.2.2.1 x.2.2.2.2.2.1.2.2.2.1 x.2.2.2.2.2.1.2.2.2.2.1 x.2.2.2.2.2.1.2.2.2.2.2.1 x.2.2.2.2.2.1.2.2.2.2.2.2.1 x.2.2.2.2.2.1.2.2.2.2.2.2.2.1 x.2.2.2.2.2.1.2.2.2.2.2.2.2.2.1 x.2.2.2.2.2.1.2.2.2.2.2.2.2.2.2.1 x.2.2.2.2.2.1.2.2.2.2.2.2.2.2.2.2.1 n x.1.2.2.2.1
def f42_l11_spec:LSpec:={ head:=f42_l11_head,outs:=f42_l11_outs,fn:=fun x=>f42_l11_n ((26:Nat)) x }
def f42_l14_head:Ann:={ env:=[(2,cP 2),(3,cP 3),(4,cP 4),(5,cP 5),(6,TI),(7,TI),(8,TI),(9,TI),(10,TI)],bxs:=[(2,.var [.ty (.sl tV),.ty (.sl tE),.ty (.sl tI)]),(3,.var [.ty (.arr 6 tI)]),(4,.var [TI,TI,TI,TI,TI,TI,.ty .bool,TI,TI,TI,TI,.cst .nils,.cst .nils]),(5,.var [TI,TI,TI,TI,TI,TI,.ty .bool,TI,TI,TI,TI,.cst .nils,.cst .nils])] }
def f42_l14_outs:List (Ex × Ann):=[((.exit 2),{ env:=[(2,cP 2),(3,cP 3),(4,cP 4),(5,cP 5),(6,TI),(7,TI),(8,TI),(9,TI),(10,TI)],bxs:=[(2,.var [.ty (.sl tV),.ty (.sl tE),.ty (.sl tI)]),(3,.var [.ty (.arr 6 tI)]),(4,.var [TI,TI,TI,TI,TI,TI,.ty .bool,TI,TI,TI,TI,.cst .nils,.cst .nils]),(5,.var [TI,TI,TI,TI,TI,TI,.ty .bool,TI,TI,TI,TI,.cst .nils,.cst .nils])] })]
def f42_l14 (t6:Int) (t7:Int) (t8:Int) (t9:Int) (b2g0:(List Vx)) (b2g1:(List Ed)) (b2g2:(List Int)) (b3g0:(List Int)) (b4g0:Int) (b4g1:Int) (b4g2:Int) (b4g3:Int) (b4g4:Int) (b4g5:Int) (b4g6:Bool) (b4g7:Int) (b4g8:Int) (b4g9:Int) (b4g10:Int) (b5g0:Int) (b5g1:Int) (b5g2:Int) (b5g3:Int) (b5g4:Int) (b5g5:Int) (b5g6:Bool) (b5g7:Int) (b5g8:Int) (b5g9:Int) (b5g10:Int):Nat→Int→Option (outDen f42_l14_outs)
 | 0,_=>none
 | k + 1,t10 =>
 (f57 (b2g0,(b2g1,(b2g2,()))) t10).bind fun y51 =>
 bif (decide (y51.1 ≥ (0:Int))) then
 let v52:Bool:=(decide ((b2g1.length:Int) < (40:Int)))
 bif v52 then
 let v53:Int:=(Int.tmod (IntKind.wrap .i64 (t10 + 1)) (40:Int))
 f42_l14 t6 t7 t8 t9 b2g0 b2g1 b2g2 b3g0 b4g0 b4g1 b4g2 b4g3 b4g4 b4g5 b4g6 b4g7 b4g8 b4g9 b4g10 b5g0 b5g1 b5g2 b5g3 b5g4 b5g5 b5g6 b5g7 b5g8 b5g9 b5g10 k v53
 else
 some ((t6,t7,t8,t9,t10,()),(),((b2g0,b2g1,b2g2,()),(b3g0,()),(b4g0,b4g1,b4g2,b4g3,b4g4,b4g5,b4g6,b4g7,b4g8,b4g9,b4g10,()),(b5g0,b5g1,b5g2,b5g3,b5g4,b5g5,b5g6,b5g7,b5g8,b5g9,b5g10,()),()))
 else
 some ((t6,t7,t8,t9,t10,()),(),((b2g0,b2g1,b2g2,()),(b3g0,()),(b4g0,b4g1,b4g2,b4g3,b4g4,b4g5,b4g6,b4g7,b4g8,b4g9,b4g10,()),(b5g0,b5g1,b5g2,b5g3,b5g4,b5g5,b5g6,b5g7,b5g8,b5g9,b5g10,()),()))
def f42_l14_n (n:Nat) (x:f42_l14_head.den):=f42_l14 x.1.1 x.1.2.1 x.1.2.2.1 x.1.2.2.2.1 x.2.2.1.1 x.2.2.1.2.1 x.2.2.1.2.2.1 x.2.2.2.1.1 x.2.2.2.2.1.1 x.2.2.2.2.1.2.1 x.2.2.2.2.1.2.2.1 x.2.2.2.2.1.2.2.2.1 x.2.2.2.2.1.2.2.2.2.1 x.2.2.2.2.1.2.2.2.2.2.1 x.2.2.2.2.1.2.2.2.2.2.2.1 x.2.2.2.2.1.2.2.2.2.2.2.2.1 x.2.2.2.2.1.2.2.2.2.2.2.2.2.1 x.2.2.2.2.1.2.2.2.2.2.2.2.2.2.1 x.2.2.2.2.1.2.2.2.2.2.2.2.2.2.2.1 x.2.2.2.2.2.1.1 x.2.2.2.2.2.1.2.1 x.2.2.2.2.2.1.2.2.1 x.2.2.2.2.2.1.2.2.2.1 x.2.2.2.2.2.1.2.2.2.2.1 x.2.2.2.2.2.1.2.2.2.2.2.1 x.2.2.2.2.2.1.2.2.2.2.2.2.1 x.2.2.2.2.2.1.2.2.2.2.2.2.2.1 x.2.2.2.2.2.1.2.2.2.2.2.2.2.2.1 x.2.2.2.2.2.1.2.2.2.2.2.2.2.2.2.1 x.2.2.2.2.2.1.2.2.2.2.2.2.2.2.2.2.1 n x.1.2.2.2.2.1
def f42_l14_spec:LSpec:={ head:=f42_l14_head,outs:=f42_l14_outs,fn:=fun x=>f42_l14_n ((42:Nat)) x }
def f42_l38_head:Ann:={ env:=[(2,cP 2),(3,cP 3),(4,cP 4),(5,cP 5),(6,TI),(11,TI)],bxs:=[(2,.var [.ty (.sl tV),.ty (.sl tE),.ty (.sl tI)]),(3,.var [.ty (.arr 6 tI)]),(4,.var [TI,TI,TI,TI,TI,TI,.ty .bool,TI,TI,TI,TI,.cst .nils,.cst .nils]),(5,.var [TI,TI,TI,TI,TI,TI,.ty .bool,TI,TI,TI,TI,.cst (.row 203 .whole),.cst .nils]),(203,.row tI false)] }
def f42_l38_outs:List (Ex × Ann):=[((.exit 5),{ env:=[(4,cP 4),(5,cP 5)],bxs:=[(4,.var [TI,TI,TI,TI,TI,TI,.ty .bool,TI,TI,TI,TI,.cst .nils,.cst .nils]),(5,.var [TI,TI,TI,TI,TI,TI,.ty .bool,TI,TI,TI,TI,.cst (.row 203 .whole),.cst .nils]),(203,.row tI false)] })]
def f42_l38 (t6:Int) (b2g0:(List Vx)) (b2g1:(List Ed)) (b2g2:(List Int)) (b3g0:(List Int)) (b4g0:Int) (b4g1:Int) (b4g2:Int) (b4g3:Int) (b4g4:Int) (b4g5:Int) (b4g6:Bool) (b4g7:Int) (b4g8:Int) (b4g9:Int) (b4g10:Int) (b5g0:Int) (b5g1:Int) (b5g2:Int) (b5g3:Int) (b5g4:Int) (b5g5:Int) (b5g6:Bool) (b5g7:Int) (b5g8:Int) (b5g9:Int) (b5g10:Int):Nat→Int→(List Int)→Option (outDen f42_l38_outs)
 | 0,_,_=>none
 | k + 1,t11,r203 =>
 bif (decide (t11 < (80:Int))) then
 (f91 (b2g0,(b2g1,(b2g2,()))) t11).bind fun y93 =>
 bif (decide (y93.1 = t6)) then
 bif (inR (4:Int) 6) then
 bif (decide ((IntKind.wrap .i64 ((1:Int) + t11)) ≠ 0)) then
 let v94:Int:=(IntKind.wrap .i64 (Int.tdiv (at_ tI b3g0 (4:Int)) (IntKind.wrap .i64 ((1:Int) + t11))))
 (f45 v94 (2:Int)).bind fun y95 =>
 bif (decide (y95.1 = (1:Int))) then
 bif (decide (r203.length + ([t11]:List Int).length≤appLim)) then f42_l38 t6 b2g0 b2g1 b2g2 b3g0 b4g0 b4g1 b4g2 b4g3 b4g4 b4g5 b4g6 b4g7 b4g8 b4g9 b4g10 b5g0 b5g1 b5g2 b5g3 b5g4 b5g5 b5g6 b5g7 b5g8 b5g9 b5g10 k (IntKind.wrap .i64 (t11 + 1)) (r203++([t11]:List Int)) else none
 else
 f42_l38 t6 b2g0 b2g1 b2g2 b3g0 b4g0 b4g1 b4g2 b4g3 b4g4 b4g5 b4g6 b4g7 b4g8 b4g9 b4g10 b5g0 b5g1 b5g2 b5g3 b5g4 b5g5 b5g6 b5g7 b5g8 b5g9 b5g10 k (IntKind.wrap .i64 (t11 + 1)) r203
 else none
 else none
 else
 f42_l38 t6 b2g0 b2g1 b2g2 b3g0 b4g0 b4g1 b4g2 b4g3 b4g4 b4g5 b4g6 b4g7 b4g8 b4g9 b4g10 b5g0 b5g1 b5g2 b5g3 b5g4 b5g5 b5g6 b5g7 b5g8 b5g9 b5g10 k (IntKind.wrap .i64 (t11 + 1)) r203
 else
 some ((),(),((b4g0,b4g1,b4g2,b4g3,b4g4,b4g5,b4g6,b4g7,b4g8,b4g9,b4g10,()),(b5g0,b5g1,b5g2,b5g3,b5g4,b5g5,b5g6,b5g7,b5g8,b5g9,b5g10,()),r203,()))
def f42_l38_n (n:Nat) (x:f42_l38_head.den):=f42_l38 x.1.1 x.2.2.1.1 x.2.2.1.2.1 x.2.2.1.2.2.1 x.2.2.2.1.1 x.2.2.2.2.1.1 x.2.2.2.2.1.2.1 x.2.2.2.2.1.2.2.1 x.2.2.2.2.1.2.2.2.1 x.2.2.2.2.1.2.2.2.2.1 x.2.2.2.2.1.2.2.2.2.2.1 x.2.2.2.2.1.2.2.2.2.2.2.1 x.2.2.2.2.1.2.2.2.2.2.2.2.1 x.2.2.2.2.1.2.2.2.2.2.2.2.2.1 x.2.2.2.2.1.2.2.2.2.2.2.2.2.2.1 x.2.2.2.2.1.2.2.2.2.2.2.2.2.2.2.1 x.2.2.2.2.2.1.1 x.2.2.2.2.2.1.2.1 x.2.2.2.2.2.1.2.2.1 x.2.2.2.2.2.1.2.2.2.1 x.2.2.2.2.2.1.2.2.2.2.1 x.2.2.2.2.2.1.2.2.2.2.2.1 x.2.2.2.2.2.1.2.2.2.2.2.2.1 x.2.2.2.2.2.1.2.2.2.2.2.2.2.1 x.2.2.2.2.2.1.2.2.2.2.2.2.2.2.1 x.2.2.2.2.2.1.2.2.2.2.2.2.2.2.2.1 x.2.2.2.2.2.1.2.2.2.2.2.2.2.2.2.2.1 n x.1.2.1 x.2.2.2.2.2.2.1
def f42_l38_spec:LSpec:={ thaws:=[.cell 5 11 203 tI],head:=f42_l38_head,outs:=f42_l38_outs,fn:=fun x=>f42_l38_n (((80:Int) - x.1.2.1).toNat + 1) x }
def f42_l47_head:Ann:={ env:=[(2,cP 2),(3,cP 3),(4,cP 4),(5,cP 5),(12,TI)],bxs:=[(2,.var [.ty (.sl tV),.ty (.sl tE),.ty (.sl tI)]),(3,.var [.ty (.arr 6 tI)]),(4,.var [TI,TI,TI,TI,TI,TI,.ty .bool,TI,TI,TI,TI,.cst .nils,.cst .nils]),(5,.var [TI,TI,TI,TI,TI,TI,.ty .bool,TI,TI,TI,TI,.cst .nils,.cst (.row 244 .whole)]),(244,.row tI false)] }
def f42_l47_outs:List (Ex × Ann):=[((.exit 7),{ env:=[(4,cP 4),(5,cP 5)],bxs:=[(4,.var [TI,TI,TI,TI,TI,TI,.ty .bool,TI,TI,TI,TI,.cst .nils,.cst .nils]),(5,.var [TI,TI,TI,TI,TI,TI,.ty .bool,TI,TI,TI,TI,.cst .nils,.cst (.row 244 .whole)]),(244,.row tI false)] })]
def f42_l47 (b2g0:(List Vx)) (b2g1:(List Ed)) (b2g2:(List Int)) (b3g0:(List Int)) (b4g0:Int) (b4g1:Int) (b4g2:Int) (b4g3:Int) (b4g4:Int) (b4g5:Int) (b4g6:Bool) (b4g7:Int) (b4g8:Int) (b4g9:Int) (b4g10:Int) (b5g0:Int) (b5g1:Int) (b5g2:Int) (b5g3:Int) (b5g4:Int) (b5g5:Int) (b5g6:Bool) (b5g7:Int) (b5g8:Int) (b5g9:Int) (b5g10:Int):Nat→Int→(List Int)→Option (outDen f42_l47_outs)
 | 0,_,_=>none
 | k + 1,t12,r244 =>
 bif (decide (t12 < (b2g0.length:Int))) then
 let v121:Bool:=(decide ((r244.length:Int) < (3:Int)))
 bif v121 then
 bif (inR (3:Int) 6) then
 bif (decide ((IntKind.wrap .i64 ((1:Int) + t12)) ≠ 0)) then
 let v122:Int:=(IntKind.wrap .i64 (Int.tdiv (at_ tI b3g0 (3:Int)) (IntKind.wrap .i64 ((1:Int) + t12))))
 (f45 v122 (3:Int)).bind fun y123 =>
 bif (decide (y123.1 = (1:Int))) then
 bif (inR t12 b2g0.length) then
 let v124:Int:=(at_ tV b2g0 t12).1
 bif (decide (r244.length + ([v124]:List Int).length≤appLim)) then f42_l47 b2g0 b2g1 b2g2 b3g0 b4g0 b4g1 b4g2 b4g3 b4g4 b4g5 b4g6 b4g7 b4g8 b4g9 b4g10 b5g0 b5g1 b5g2 b5g3 b5g4 b5g5 b5g6 b5g7 b5g8 b5g9 b5g10 k (IntKind.wrap .i64 (t12 + 1)) (r244++([v124]:List Int)) else none
 else none
 else
 f42_l47 b2g0 b2g1 b2g2 b3g0 b4g0 b4g1 b4g2 b4g3 b4g4 b4g5 b4g6 b4g7 b4g8 b4g9 b4g10 b5g0 b5g1 b5g2 b5g3 b5g4 b5g5 b5g6 b5g7 b5g8 b5g9 b5g10 k (IntKind.wrap .i64 (t12 + 1)) r244
 else none
 else none
 else
 some ((),(),((b4g0,b4g1,b4g2,b4g3,b4g4,b4g5,b4g6,b4g7,b4g8,b4g9,b4g10,()),(b5g0,b5g1,b5g2,b5g3,b5g4,b5g5,b5g6,b5g7,b5g8,b5g9,b5g10,()),r244,()))
 else
 some ((),(),((b4g0,b4g1,b4g2,b4g3,b4g4,b4g5,b4g6,b4g7,b4g8,b4g9,b4g10,()),(b5g0,b5g1,b5g2,b5g3,b5g4,b5g5,b5g6,b5g7,b5g8,b5g9,b5g10,()),r244,()))
def f42_l47_n (n:Nat) (x:f42_l47_head.den):=f42_l47 x.2.2.1.1 x.2.2.1.2.1 x.2.2.1.2.2.1 x.2.2.2.1.1 x.2.2.2.2.1.1 x.2.2.2.2.1.2.1 x.2.2.2.2.1.2.2.1 x.2.2.2.2.1.2.2.2.1 x.2.2.2.2.1.2.2.2.2.1 x.2.2.2.2.1.2.2.2.2.2.1 x.2.2.2.2.1.2.2.2.2.2.2.1 x.2.2.2.2.1.2.2.2.2.2.2.2.1 x.2.2.2.2.1.2.2.2.2.2.2.2.2.1 x.2.2.2.2.1.2.2.2.2.2.2.2.2.2.1 x.2.2.2.2.1.2.2.2.2.2.2.2.2.2.2.1 x.2.2.2.2.2.1.1 x.2.2.2.2.2.1.2.1 x.2.2.2.2.2.1.2.2.1 x.2.2.2.2.2.1.2.2.2.1 x.2.2.2.2.2.1.2.2.2.2.1 x.2.2.2.2.2.1.2.2.2.2.2.1 x.2.2.2.2.2.1.2.2.2.2.2.2.1 x.2.2.2.2.2.1.2.2.2.2.2.2.2.1 x.2.2.2.2.2.1.2.2.2.2.2.2.2.2.1 x.2.2.2.2.2.1.2.2.2.2.2.2.2.2.2.1 x.2.2.2.2.2.1.2.2.2.2.2.2.2.2.2.2.1 n x.1.1 x.2.2.2.2.2.2.1
def f42_l47_spec:LSpec:={ thaws:=[.cell 5 12 244 tI],head:=f42_l47_head,outs:=f42_l47_outs,fn:=fun x=>f42_l47_n (((x.2.2.1.1.length:Int) - x.1.1).toNat + 1) x }
def tail42 (a0:Gr) (a1:(List Int)) (id other edge kd free:Int):Option ((Int × (Vx × (Ed × (Int × (Int × ((List Int) × ((List Int) × Unit))))))) × Unit) :=
 (f42_l11 id other edge a0.1 a0.2.1 a0.2.2.1 a1 0 0 0 0 0 0 false 0 0 0 0 (IntKind.wrap .i64 ((1:Int) + kd)) 0 0 0 0 0 false 0 0 0 0 ((26:Nat)) free).bind fun o19 =>
 let u20:Int:=o19.1.1
 let u21:Int:=o19.1.2.1
 let u22:Int:=o19.1.2.2.1
 let u23:Int:=o19.1.2.2.2.1
 let u24:(List Vx):=o19.2.2.1.1
 let u25:(List Ed):=o19.2.2.1.2.1
 let u26:(List Int):=o19.2.2.1.2.2.1
 let u27:(List Int):=o19.2.2.2.1.1
 let u28:Int:=o19.2.2.2.2.1.1
 let u29:Int:=o19.2.2.2.2.1.2.1
 let u30:Int:=o19.2.2.2.2.1.2.2.1
 let u31:Int:=o19.2.2.2.2.1.2.2.2.1
 let u32:Int:=o19.2.2.2.2.1.2.2.2.2.1
 let u33:Int:=o19.2.2.2.2.1.2.2.2.2.2.1
 let u34:Bool:=o19.2.2.2.2.1.2.2.2.2.2.2.1
 let u35:Int:=o19.2.2.2.2.1.2.2.2.2.2.2.2.1
 let u36:Int:=o19.2.2.2.2.1.2.2.2.2.2.2.2.2.1
 let u37:Int:=o19.2.2.2.2.1.2.2.2.2.2.2.2.2.2.1
 let u38:Int:=o19.2.2.2.2.1.2.2.2.2.2.2.2.2.2.2.1
 let u39:Int:=o19.2.2.2.2.2.1.1
 let u40:Int:=o19.2.2.2.2.2.1.2.1
 let u41:Int:=o19.2.2.2.2.2.1.2.2.1
 let u42:Int:=o19.2.2.2.2.2.1.2.2.2.1
 let u43:Int:=o19.2.2.2.2.2.1.2.2.2.2.1
 let u44:Int:=o19.2.2.2.2.2.1.2.2.2.2.2.1
 let u45:Bool:=o19.2.2.2.2.2.1.2.2.2.2.2.2.1
 let u46:Int:=o19.2.2.2.2.2.1.2.2.2.2.2.2.2.1
 let u47:Int:=o19.2.2.2.2.2.1.2.2.2.2.2.2.2.2.1
 let u48:Int:=o19.2.2.2.2.2.1.2.2.2.2.2.2.2.2.2.1
 let u49:Int:=o19.2.2.2.2.2.1.2.2.2.2.2.2.2.2.2.2.1
 bif (inR (4:Int) 6) then
 (f45 (at_ tI u27 (4:Int)) (40:Int)).bind fun y50 =>
 (f42_l14 u20 u21 u22 u23 u24 u25 u26 u27 u28 u29 u30 u31 u32 u33 u34 u35 u36 u37 u38 u39 u40 u41 u42 u43 u44 u45 u46 u47 u48 u49 ((42:Nat)) y50.1).bind fun o54 =>
 let u55:Int:=o54.1.1
 let u56:Int:=o54.1.2.1
 let u57:Int:=o54.1.2.2.1
 let u58:Int:=o54.1.2.2.2.1
 let u59:Int:=o54.1.2.2.2.2.1
 let u60:(List Vx):=o54.2.2.1.1
 let u61:(List Ed):=o54.2.2.1.2.1
 let u62:(List Int):=o54.2.2.1.2.2.1
 let u63:(List Int):=o54.2.2.2.1.1
 let u64:Int:=o54.2.2.2.2.1.1
 let u65:Int:=o54.2.2.2.2.1.2.1
 let u66:Int:=o54.2.2.2.2.1.2.2.1
 let u67:Int:=o54.2.2.2.2.1.2.2.2.1
 let u68:Int:=o54.2.2.2.2.1.2.2.2.2.1
 let u69:Int:=o54.2.2.2.2.1.2.2.2.2.2.1
 let u70:Bool:=o54.2.2.2.2.1.2.2.2.2.2.2.1
 let u71:Int:=o54.2.2.2.2.1.2.2.2.2.2.2.2.1
 let u72:Int:=o54.2.2.2.2.1.2.2.2.2.2.2.2.2.1
 let u73:Int:=o54.2.2.2.2.1.2.2.2.2.2.2.2.2.2.1
 let u74:Int:=o54.2.2.2.2.1.2.2.2.2.2.2.2.2.2.2.1
 let u75:Int:=o54.2.2.2.2.2.1.1
 let u76:Int:=o54.2.2.2.2.2.1.2.1
 let u77:Int:=o54.2.2.2.2.2.1.2.2.1
 let u78:Int:=o54.2.2.2.2.2.1.2.2.2.1
 let u79:Int:=o54.2.2.2.2.2.1.2.2.2.2.1
 let u80:Int:=o54.2.2.2.2.2.1.2.2.2.2.2.1
 let u81:Bool:=o54.2.2.2.2.2.1.2.2.2.2.2.2.1
 let u82:Int:=o54.2.2.2.2.2.1.2.2.2.2.2.2.2.1
 let u83:Int:=o54.2.2.2.2.2.1.2.2.2.2.2.2.2.2.1
 let u84:Int:=o54.2.2.2.2.2.1.2.2.2.2.2.2.2.2.2.1
 let u85:Int:=o54.2.2.2.2.2.1.2.2.2.2.2.2.2.2.2.2.1
 bif (decide (u75 = (1:Int))) then
 bif (inR (4:Int) 6) then
 (f45 (at_ tI u63 (4:Int)) (4:Int)).bind fun y86 =>
 some ((u75,((u58,(y86.1,())),((u78,(u79,(u80,(u81,(u82,(u83,())))))),(u84,(u85,([],([],()))))))),())
 else none
 else
 bif (decide (u75 = (3:Int))) then
 bif (inR (3:Int) 6) then
 (f45 (at_ tI u63 (3:Int)) (2:Int)).bind fun y87 =>
 bif (inR (3:Int) 6) then
 (f45 (at_ tI u63 (3:Int)) (12:Int)).bind fun y88 =>
 bif (inR (5:Int) 6) then
 (f45 (at_ tI u63 (5:Int)) (6:Int)).bind fun y89 =>
 some ((u75,((u76,(u77,())),((u59,(u55,(u56,((decide (y87.1 = (1:Int))),((IntKind.wrap .i64 (y88.1 - (3:Int))),(y89.1,())))))),(u84,(u85,([],([],()))))))),())
 else none
 else none
 else none
 else
 bif (decide (u75 = (2:Int))) then
 some ((u75,((u76,(u77,())),((u78,(u79,(u80,(u81,(u82,(u83,())))))),(u55,(u85,([],([],()))))))),())
 else
 bif (decide (u75 = (4:Int))) then
 some ((u75,((u76,(u77,())),((u78,(u79,(u80,(u81,(u82,(u83,())))))),(u57,(u85,([],([],()))))))),())
 else
 bif (decide (u75 = (5:Int))) then
 bif (inR (3:Int) 6) then
 (f45 (at_ tI u63 (3:Int)) (12:Int)).bind fun y90 =>
 some ((u75,((u76,(u77,())),((u78,(u79,(u80,(u81,(u82,(u83,())))))),(u57,((IntKind.wrap .i64 (y90.1 - (3:Int))),([],([],()))))))),())
 else none
 else
 bif (decide (u75 = (6:Int))) then
 bif (inR (3:Int) 6) then
 (f45 (at_ tI u63 (3:Int)) (6:Int)).bind fun y91 =>
 some ((u75,((u76,(u77,())),((u78,(u79,(u80,(u81,(u82,(u83,())))))),(u57,(y91.1,([],([],()))))))),())
 else none
 else
 bif (decide (u75 = (7:Int))) then
 some ((u75,((u76,(u77,())),((u78,(u79,(u80,(u81,(u82,(u83,())))))),(u55,(u56,([],([],()))))))),())
 else
 bif (decide (u75 = (8:Int))) then
 bif (inR (4:Int) 6) then
 (f45 (at_ tI u63 (4:Int)) (4:Int)).bind fun y92 =>
 (f42_l38 u55 u60 u61 u62 u63 u64 u65 u66 u67 u68 u69 u70 u71 u72 u73 u74 u75 u58 y92.1 u78 u79 u80 u81 u82 u83 u55 u85 (((80:Int) - (0:Int)).toNat + 1) (0:Int) []).bind fun o96 =>
 let u108:Int:=o96.2.2.2.1.1
 let u109:Int:=o96.2.2.2.1.2.1
 let u110:Int:=o96.2.2.2.1.2.2.1
 let u111:Int:=o96.2.2.2.1.2.2.2.1
 let u112:Int:=o96.2.2.2.1.2.2.2.2.1
 let u113:Int:=o96.2.2.2.1.2.2.2.2.2.1
 let u114:Bool:=o96.2.2.2.1.2.2.2.2.2.2.1
 let u115:Int:=o96.2.2.2.1.2.2.2.2.2.2.2.1
 let u116:Int:=o96.2.2.2.1.2.2.2.2.2.2.2.2.1
 let u117:Int:=o96.2.2.2.1.2.2.2.2.2.2.2.2.2.1
 let u118:Int:=o96.2.2.2.1.2.2.2.2.2.2.2.2.2.2.1
 let u119:(List Int):=o96.2.2.2.2.1
 some ((u108,((u109,(u110,())),((u111,(u112,(u113,(u114,(u115,(u116,())))))),(u117,(u118,(u119,([],()))))))),())
 else none
 else
 bif (decide (u75 = (9:Int))) then
 bif (inR (3:Int) 6) then
 (f45 (at_ tI u63 (3:Int)) (4:Int)).bind fun y120 =>
 some ((u75,((u76,(u77,())),((u78,(u79,(u80,(u81,(u82,(u83,())))))),(u55,(y120.1,([],([],()))))))),())
 else none
 else
 bif (decide (u75 = (10:Int))) then
 (f42_l47 u60 u61 u62 u63 u64 u65 u66 u67 u68 u69 u70 u71 u72 u73 u74 u75 u76 u77 u78 u79 u80 u81 u82 u83 u84 u85 (((u60.length:Int) - (0:Int)).toNat + 1) (0:Int) []).bind fun o125 =>
 let u137:Int:=o125.2.2.2.1.1
 let u138:Int:=o125.2.2.2.1.2.1
 let u139:Int:=o125.2.2.2.1.2.2.1
 let u140:Int:=o125.2.2.2.1.2.2.2.1
 let u141:Int:=o125.2.2.2.1.2.2.2.2.1
 let u142:Int:=o125.2.2.2.1.2.2.2.2.2.1
 let u143:Bool:=o125.2.2.2.1.2.2.2.2.2.2.1
 let u144:Int:=o125.2.2.2.1.2.2.2.2.2.2.2.1
 let u145:Int:=o125.2.2.2.1.2.2.2.2.2.2.2.2.1
 let u146:Int:=o125.2.2.2.1.2.2.2.2.2.2.2.2.2.1
 let u147:Int:=o125.2.2.2.1.2.2.2.2.2.2.2.2.2.2.1
 let u148:(List Int):=o125.2.2.2.2.1
 some ((u137,((u138,(u139,())),((u140,(u141,(u142,(u143,(u144,(u145,())))))),(u146,(u147,([],(u148,()))))))),())
 else
 some ((u75,((u76,(u77,())),((u78,(u79,(u80,(u81,(u82,(u83,())))))),(u84,(u85,([],([],()))))))),())
 else none
def f42 (a0:Gr) (a1:(List Int)):Option ((Int × (Vx × (Ed × (Int × (Int × ((List Int) × ((List Int) × Unit))))))) × Unit) :=
 bif (inR (0:Int) 6) then
 (f45 (at_ tI a1 (0:Int)) (10:Int)).bind fun y1 =>
 bif (inR (1:Int) 6) then
 (f45 (at_ tI a1 (1:Int)) (24:Int)).bind fun y2 =>
 bif (inR (2:Int) 6) then
 (f45 (at_ tI a1 (2:Int)) (24:Int)).bind fun y3 =>
 bif (inR (1:Int) 6) then
 (f45 (at_ tI a1 (1:Int)) (40:Int)).bind fun y4 =>
 let v5:Bool:=(decide ((a0.1.length:Int) > (0:Int)))
 bif v5 then
 bif (inR (5:Int) 6) then
 (f45 (at_ tI a1 (5:Int)) (8:Int)).bind fun y6 =>
 bif (decide (y6.1 > (0:Int))) then
 bif (inR (1:Int) 6) then
 (f45 (at_ tI a1 (1:Int)) (a0.1.length:Int)).bind fun y7 =>
 bif (inR y7.1 a0.1.length) then
 let v8:Int:=(at_ tV a0.1 y7.1).1
 bif (inR (2:Int) 6) then
 (f45 (at_ tI a1 (2:Int)) (a0.1.length:Int)).bind fun y9 =>
 bif (inR y9.1 a0.1.length) then
 let v10:Int:=(at_ tV a0.1 y9.1).1
 let v11:Bool:=(decide ((a0.2.1.length:Int) > (0:Int)))
 bif v11 then
 bif (inR (5:Int) 6) then
 (f45 (at_ tI a1 (5:Int)) (8:Int)).bind fun y12 =>
 bif (decide (y12.1 > (0:Int))) then
 bif (inR (1:Int) 6) then
 (f45 (at_ tI a1 (1:Int)) (a0.2.1.length:Int)).bind fun y13 =>
 bif (inR y13.1 a0.2.1.length) then
 let v14:Int:=(at_ tE a0.2.1 y13.1).1
 bif (inR (3:Int) 6) then
 (f45 (at_ tI a1 (3:Int)) (24:Int)).bind fun y15 =>
 (tail42 a0 a1 v8 v10 v14 y1.1 y15.1)
 else none
 else none
 else none
 else
 bif (inR (3:Int) 6) then
 (f45 (at_ tI a1 (3:Int)) (24:Int)).bind fun y149 =>
 (tail42 a0 a1 v8 v10 y4.1 y1.1 y149.1)
 else none
 else none
 else
 bif (inR (3:Int) 6) then
 (f45 (at_ tI a1 (3:Int)) (24:Int)).bind fun y283 =>
 (tail42 a0 a1 v8 v10 y4.1 y1.1 y283.1)
 else none
 else none
 else none
 else none
 else none
 else
 let v417:Bool:=(decide ((a0.2.1.length:Int) > (0:Int)))
 bif v417 then
 bif (inR (5:Int) 6) then
 (f45 (at_ tI a1 (5:Int)) (8:Int)).bind fun y418 =>
 bif (decide (y418.1 > (0:Int))) then
 bif (inR (1:Int) 6) then
 (f45 (at_ tI a1 (1:Int)) (a0.2.1.length:Int)).bind fun y419 =>
 bif (inR y419.1 a0.2.1.length) then
 let v420:Int:=(at_ tE a0.2.1 y419.1).1
 bif (inR (3:Int) 6) then
 (f45 (at_ tI a1 (3:Int)) (24:Int)).bind fun y421 =>
 (tail42 a0 a1 y2.1 y3.1 v420 y1.1 y421.1)
 else none
 else none
 else none
 else
 bif (inR (3:Int) 6) then
 (f45 (at_ tI a1 (3:Int)) (24:Int)).bind fun y555 =>
 (tail42 a0 a1 y2.1 y3.1 y4.1 y1.1 y555.1)
 else none
 else none
 else
 bif (inR (3:Int) 6) then
 (f45 (at_ tI a1 (3:Int)) (24:Int)).bind fun y689 =>
 (tail42 a0 a1 y2.1 y3.1 y4.1 y1.1 y689.1)
 else none
 else none
 else
 let v823:Bool:=(decide ((a0.2.1.length:Int) > (0:Int)))
 bif v823 then
 bif (inR (5:Int) 6) then
 (f45 (at_ tI a1 (5:Int)) (8:Int)).bind fun y824 =>
 bif (decide (y824.1 > (0:Int))) then
 bif (inR (1:Int) 6) then
 (f45 (at_ tI a1 (1:Int)) (a0.2.1.length:Int)).bind fun y825 =>
 bif (inR y825.1 a0.2.1.length) then
 let v826:Int:=(at_ tE a0.2.1 y825.1).1
 bif (inR (3:Int) 6) then
 (f45 (at_ tI a1 (3:Int)) (24:Int)).bind fun y827 =>
 (tail42 a0 a1 y2.1 y3.1 v826 y1.1 y827.1)
 else none
 else none
 else none
 else
 bif (inR (3:Int) 6) then
 (f45 (at_ tI a1 (3:Int)) (24:Int)).bind fun y961 =>
 (tail42 a0 a1 y2.1 y3.1 y4.1 y1.1 y961.1)
 else none
 else none
 else
 bif (inR (3:Int) 6) then
 (f45 (at_ tI a1 (3:Int)) (24:Int)).bind fun y1097 =>
 (tail42 a0 a1 y2.1 y3.1 y4.1 y1.1 y1097.1)
 else none
 else none
 else none
 else none
 else none
def f42_spec:PSpec:={ args:=[tG,(.arr 6 tI)],res:=[(.pair tI (.pair tV (.pair tE (.pair tI (.pair tI (.pair (.sl tI) (.pair (.sl tI) .unit)))))))],fn:=fun x=>f42 x.1 x.2.1 }
noncomputable def f42_code:Code:=Tryz.f42.body.getD .skip
noncomputable def f42_env:Env0:={ C:=cfg,P:=[(45,f45_spec),(55,f55_spec),(57,f57_spec),(91,f91_spec)],L:=[(⟨12,0,42,11⟩,f42_l11_spec),(⟨12,0,42,14⟩,f42_l14_spec),(⟨12,0,42,38⟩,f42_l38_spec),(⟨12,0,42,47⟩,f42_l47_spec)],F:=[(42,Tryz.f42)] }
theorem f42_l11_ok:LoopOK f42_env 12 42 0 (loopAt f42_code 11) f42_l11_spec :=
 loopOK_of (by kernel_rfl) f42_l11_n (fun x o h=>⟨_,h⟩) (fun x=>by kernel_rfl) (fun n x=>by kernel_rfl)
theorem f42_l14_ok:LoopOK f42_env 12 42 0 (loopAt f42_code 14) f42_l14_spec :=
 loopOK_of (by kernel_rfl) f42_l14_n (fun x o h=>⟨_,h⟩) (fun x=>by kernel_rfl) (fun n x=>by kernel_rfl)
theorem f42_l38_ok:LoopOK f42_env 12 42 0 (loopAt f42_code 38) f42_l38_spec :=
 loopOK_of (by kernel_rfl) f42_l38_n (fun x o h=>⟨_,h⟩) (fun x=>by kernel_rfl) (fun n x=>by kernel_rfl)
theorem f42_l47_ok:LoopOK f42_env 12 42 0 (loopAt f42_code 47) f42_l47_spec :=
 loopOK_of (by kernel_rfl) f42_l47_n (fun x o h=>⟨_,h⟩) (fun x=>by kernel_rfl) (fun n x=>by kernel_rfl)
theorem f42_run (x:tysDen (f42_spec).args):runF f42_env 42 Tryz.f42 f42_code (f42_spec).args (f42_spec).res x = f42_spec.fn x:=by kernel_rfl
theorem f42_enter:Enterable Tryz.prog 42:=enter_fun Tryz.func42 (by kernel_rfl)
theorem f42_envOK:EnvOK Tryz.prog f42_env:=envOK_of cds (by kernel_rfl) cfg_ok ⟨⟨f45_pure,f45_enter⟩,⟨f55_pure,f55_enter⟩,⟨f57_pure,f57_enter⟩,⟨f91_pure,f91_enter⟩,trivial⟩ trivial ⟨⟨Tryz.func42,by kernel_rfl⟩,trivial⟩ ⟨⟨Tryz.f42,f42_code,rfl,rfl,f42_l11_ok⟩,⟨Tryz.f42,f42_code,rfl,rfl,f42_l14_ok⟩,⟨Tryz.f42,f42_code,rfl,rfl,f42_l38_ok⟩,⟨Tryz.f42,f42_code,rfl,rfl,f42_l47_ok⟩,trivial⟩ trivial trivial
theorem f42_pure:PureOK Tryz.prog cfg 42 f42_spec:=pure_of_run f42_envOK (fn:=Tryz.f42) (c:=f42_code) rfl rfl f42_spec (fun x _ h=>(f42_run x).trans h)
def f186 (a0:(Int × (Vx × (Ed × (Int × (Int × ((List Int) × ((List Int) × Unit)))))))) (a1:(Int × (Vx × (Ed × (Int × (Int × ((List Int) × ((List Int) × Unit)))))))):Option (Bool × Unit) :=
 bif (decide (a0.1 = a1.1)) then
 let v1:Bool:=(decide (a0.2.1.1 = a1.2.1.1) && (decide (a0.2.1.2.1 = a1.2.1.2.1) && true))
 bif v1 then
 let v2:Bool:=(decide (a0.2.2.1.1 = a1.2.2.1.1) && (decide (a0.2.2.1.2.1 = a1.2.2.1.2.1) && (decide (a0.2.2.1.2.2.1 = a1.2.2.1.2.2.1) && (decide (a0.2.2.1.2.2.2.1 = a1.2.2.1.2.2.2.1) && (decide (a0.2.2.1.2.2.2.2.1 = a1.2.2.1.2.2.2.2.1) && (decide (a0.2.2.1.2.2.2.2.2.1 = a1.2.2.1.2.2.2.2.2.1) && true))))))
 bif v2 then
 bif (decide (a0.2.2.2.1 = a1.2.2.2.1)) then
 bif (decide (a0.2.2.2.2.1 = a1.2.2.2.2.1)) then
 (f30 a0.2.2.2.2.2.1 a1.2.2.2.2.2.1).bind fun y3 =>
 bif y3.1 then
 (f30 a0.2.2.2.2.2.2.1 a1.2.2.2.2.2.2.1).bind fun y4 =>
 some (y4.1,())
 else
 some (false,())
 else
 some (false,())
 else
 some (false,())
 else
 some (false,())
 else
 some (false,())
 else
 some (false,())
def f186_spec:PSpec:={ args:=[(.pair tI (.pair tV (.pair tE (.pair tI (.pair tI (.pair (.sl tI) (.pair (.sl tI) .unit))))))),(.pair tI (.pair tV (.pair tE (.pair tI (.pair tI (.pair (.sl tI) (.pair (.sl tI) .unit)))))))],res:=[.bool],fn:=fun x=>f186 x.1 x.2.1 }
noncomputable def f186_code:Code:=Tryz.f186.body.getD .skip
noncomputable def f186_env:Env0:={ C:=cfg,P:=[(30,f30_spec)],L:=[],F:=[(186,Tryz.f186)] }
theorem f186_run (x:tysDen (f186_spec).args):runF f186_env 186 Tryz.f186 f186_code (f186_spec).args (f186_spec).res x = f186_spec.fn x:=by kernel_rfl
theorem f186_enter:Enterable Tryz.prog 186:=enter_fun Tryz.func186 (by kernel_rfl)
theorem f186_envOK:EnvOK Tryz.prog f186_env:=envOK_of cds (by kernel_rfl) cfg_ok ⟨⟨f30_pure,f30_enter⟩,trivial⟩ trivial ⟨⟨Tryz.func186,by kernel_rfl⟩,trivial⟩ trivial trivial trivial
theorem f186_pure:PureOK Tryz.prog cfg 186 f186_spec:=pure_of_run f186_envOK (fn:=Tryz.f186) (c:=f186_code) rfl rfl f186_spec (fun x _ h=>(f186_run x).trans h)
def f127 (a0:(Int × (Vx × (Ed × (Int × (Int × ((List Int) × ((List Int) × Unit)))))))):Option (Bool × Unit) :=
 bif (decide (a0.1 = (1:Int))) then
 (f186 a0 (a0.1,(a0.2.1,((0,(0,(0,(false,(0,(0,())))))),(0,(0,([],([],())))))))).bind fun y1 =>
 some (y1.1,())
 else
 bif (decide (a0.1 = (3:Int))) then
 (f186 a0 (a0.1,((0,(0,())),(a0.2.2.1,(0,(0,([],([],())))))))).bind fun y2 =>
 some (y2.1,())
 else
 bif (decide (a0.1 = (2:Int))) then
 bif (decide (a0.1 = (2:Int))) then
 (f186 a0 (a0.1,((0,(0,())),((0,(0,(0,(false,(0,(0,())))))),(a0.2.2.2.1,(0,([],([],())))))))).bind fun y3 =>
 some (y3.1,())
 else
 bif (decide (a0.1 = (5:Int))) then
 bif (decide (a0.1 = (5:Int))) then
 (f186 a0 (a0.1,((0,(0,())),((0,(0,(0,(false,(0,(0,())))))),(a0.2.2.2.1,(a0.2.2.2.2.1,([],([],())))))))).bind fun y4 =>
 some (y4.1,())
 else
 bif (decide (a0.1 = (8:Int))) then
 (f186 a0 (a0.1,(a0.2.1,((0,(0,(0,(false,(0,(0,())))))),(a0.2.2.2.1,(0,(a0.2.2.2.2.2.1,([],())))))))).bind fun y5 =>
 some (y5.1,())
 else
 bif (decide (a0.1 = (10:Int))) then
 (f186 a0 (a0.1,((0,(0,())),((0,(0,(0,(false,(0,(0,())))))),(0,(0,([],a0.2.2.2.2.2.2))))))).bind fun y6 =>
 some (y6.1,())
 else
 some (false,())
 else
 bif (decide (a0.1 = (6:Int))) then
 bif (decide (a0.1 = (6:Int))) then
 (f186 a0 (a0.1,((0,(0,())),((0,(0,(0,(false,(0,(0,())))))),(a0.2.2.2.1,(a0.2.2.2.2.1,([],([],())))))))).bind fun y7 =>
 some (y7.1,())
 else
 bif (decide (a0.1 = (8:Int))) then
 (f186 a0 (a0.1,(a0.2.1,((0,(0,(0,(false,(0,(0,())))))),(a0.2.2.2.1,(0,(a0.2.2.2.2.2.1,([],())))))))).bind fun y8 =>
 some (y8.1,())
 else
 bif (decide (a0.1 = (10:Int))) then
 (f186 a0 (a0.1,((0,(0,())),((0,(0,(0,(false,(0,(0,())))))),(0,(0,([],a0.2.2.2.2.2.2))))))).bind fun y9 =>
 some (y9.1,())
 else
 some (false,())
 else
 bif (decide (a0.1 = (7:Int))) then
 bif (decide (a0.1 = (7:Int))) then
 (f186 a0 (a0.1,((0,(0,())),((0,(0,(0,(false,(0,(0,())))))),(a0.2.2.2.1,(a0.2.2.2.2.1,([],([],())))))))).bind fun y10 =>
 some (y10.1,())
 else
 bif (decide (a0.1 = (8:Int))) then
 (f186 a0 (a0.1,(a0.2.1,((0,(0,(0,(false,(0,(0,())))))),(a0.2.2.2.1,(0,(a0.2.2.2.2.2.1,([],())))))))).bind fun y11 =>
 some (y11.1,())
 else
 bif (decide (a0.1 = (10:Int))) then
 (f186 a0 (a0.1,((0,(0,())),((0,(0,(0,(false,(0,(0,())))))),(0,(0,([],a0.2.2.2.2.2.2))))))).bind fun y12 =>
 some (y12.1,())
 else
 some (false,())
 else
 bif (decide (a0.1 = (9:Int))) then
 (f186 a0 (a0.1,((0,(0,())),((0,(0,(0,(false,(0,(0,())))))),(a0.2.2.2.1,(a0.2.2.2.2.1,([],([],())))))))).bind fun y13 =>
 some (y13.1,())
 else
 bif (decide (a0.1 = (8:Int))) then
 (f186 a0 (a0.1,(a0.2.1,((0,(0,(0,(false,(0,(0,())))))),(a0.2.2.2.1,(0,(a0.2.2.2.2.2.1,([],())))))))).bind fun y14 =>
 some (y14.1,())
 else
 bif (decide (a0.1 = (10:Int))) then
 (f186 a0 (a0.1,((0,(0,())),((0,(0,(0,(false,(0,(0,())))))),(0,(0,([],a0.2.2.2.2.2.2))))))).bind fun y15 =>
 some (y15.1,())
 else
 some (false,())
 else
 bif (decide (a0.1 = (4:Int))) then
 (f186 a0 (a0.1,((0,(0,())),((0,(0,(0,(false,(0,(0,())))))),(a0.2.2.2.1,(0,([],([],())))))))).bind fun y16 =>
 some (y16.1,())
 else
 bif (decide (a0.1 = (5:Int))) then
 bif (decide (a0.1 = (5:Int))) then
 (f186 a0 (a0.1,((0,(0,())),((0,(0,(0,(false,(0,(0,())))))),(a0.2.2.2.1,(a0.2.2.2.2.1,([],([],())))))))).bind fun y17 =>
 some (y17.1,())
 else
 bif (decide (a0.1 = (8:Int))) then
 (f186 a0 (a0.1,(a0.2.1,((0,(0,(0,(false,(0,(0,())))))),(a0.2.2.2.1,(0,(a0.2.2.2.2.2.1,([],())))))))).bind fun y18 =>
 some (y18.1,())
 else
 bif (decide (a0.1 = (10:Int))) then
 (f186 a0 (a0.1,((0,(0,())),((0,(0,(0,(false,(0,(0,())))))),(0,(0,([],a0.2.2.2.2.2.2))))))).bind fun y19 =>
 some (y19.1,())
 else
 some (false,())
 else
 bif (decide (a0.1 = (6:Int))) then
 bif (decide (a0.1 = (6:Int))) then
 (f186 a0 (a0.1,((0,(0,())),((0,(0,(0,(false,(0,(0,())))))),(a0.2.2.2.1,(a0.2.2.2.2.1,([],([],())))))))).bind fun y20 =>
 some (y20.1,())
 else
 bif (decide (a0.1 = (8:Int))) then
 (f186 a0 (a0.1,(a0.2.1,((0,(0,(0,(false,(0,(0,())))))),(a0.2.2.2.1,(0,(a0.2.2.2.2.2.1,([],())))))))).bind fun y21 =>
 some (y21.1,())
 else
 bif (decide (a0.1 = (10:Int))) then
 (f186 a0 (a0.1,((0,(0,())),((0,(0,(0,(false,(0,(0,())))))),(0,(0,([],a0.2.2.2.2.2.2))))))).bind fun y22 =>
 some (y22.1,())
 else
 some (false,())
 else
 bif (decide (a0.1 = (7:Int))) then
 bif (decide (a0.1 = (7:Int))) then
 (f186 a0 (a0.1,((0,(0,())),((0,(0,(0,(false,(0,(0,())))))),(a0.2.2.2.1,(a0.2.2.2.2.1,([],([],())))))))).bind fun y23 =>
 some (y23.1,())
 else
 bif (decide (a0.1 = (8:Int))) then
 (f186 a0 (a0.1,(a0.2.1,((0,(0,(0,(false,(0,(0,())))))),(a0.2.2.2.1,(0,(a0.2.2.2.2.2.1,([],())))))))).bind fun y24 =>
 some (y24.1,())
 else
 bif (decide (a0.1 = (10:Int))) then
 (f186 a0 (a0.1,((0,(0,())),((0,(0,(0,(false,(0,(0,())))))),(0,(0,([],a0.2.2.2.2.2.2))))))).bind fun y25 =>
 some (y25.1,())
 else
 some (false,())
 else
 bif (decide (a0.1 = (9:Int))) then
 (f186 a0 (a0.1,((0,(0,())),((0,(0,(0,(false,(0,(0,())))))),(a0.2.2.2.1,(a0.2.2.2.2.1,([],([],())))))))).bind fun y26 =>
 some (y26.1,())
 else
 bif (decide (a0.1 = (8:Int))) then
 (f186 a0 (a0.1,(a0.2.1,((0,(0,(0,(false,(0,(0,())))))),(a0.2.2.2.1,(0,(a0.2.2.2.2.2.1,([],())))))))).bind fun y27 =>
 some (y27.1,())
 else
 bif (decide (a0.1 = (10:Int))) then
 (f186 a0 (a0.1,((0,(0,())),((0,(0,(0,(false,(0,(0,())))))),(0,(0,([],a0.2.2.2.2.2.2))))))).bind fun y28 =>
 some (y28.1,())
 else
 some (false,())
def f127_spec:PSpec:={ args:=[(.pair tI (.pair tV (.pair tE (.pair tI (.pair tI (.pair (.sl tI) (.pair (.sl tI) .unit)))))))],res:=[.bool],fn:=fun x=>f127 x.1 }
noncomputable def f127_code:Code:=Tryz.f127.body.getD .skip
noncomputable def f127_env:Env0:={ C:=cfg,P:=[(186,f186_spec)],L:=[],F:=[(127,Tryz.f127)] }
theorem f127_run (x:tysDen (f127_spec).args):runF f127_env 127 Tryz.f127 f127_code (f127_spec).args (f127_spec).res x = f127_spec.fn x:=by kernel_rfl
theorem f127_enter:Enterable Tryz.prog 127:=enter_fun Tryz.func127 (by kernel_rfl)
theorem f127_envOK:EnvOK Tryz.prog f127_env:=envOK_of cds (by kernel_rfl) cfg_ok ⟨⟨f186_pure,f186_enter⟩,trivial⟩ trivial ⟨⟨Tryz.func127,by kernel_rfl⟩,trivial⟩ trivial trivial trivial
theorem f127_pure:PureOK Tryz.prog cfg 127 f127_spec:=pure_of_run f127_envOK (fn:=Tryz.f127) (c:=f127_code) rfl rfl f127_spec (fun x _ h=>(f127_run x).trans h)
def f188_l2_head:Ann:={ env:=[(0,.ty (.sl tI)),(1,TI),(5,TI)] }
def f188_l2_outs:List (Ex × Ann):=[((.exit 0),{ env:=[] }),(.ret,{ env:=[(4,.ty .bool)] })]
def f188_l2 (t0:(List Int)) (t1:Int):Nat→Int→Option (outDen f188_l2_outs)
 | 0,_=>none
 | k + 1,t5 =>
 bif (decide (t5 < (t0.length:Int))) then
 bif (inR t5 t0.length) then
 bif (decide ((at_ tI t0 t5) = t1)) then
 some (.inr ((true,()),(),()))
 else
 f188_l2 t0 t1 k (IntKind.wrap .i64 (t5 + 1))
 else none
 else
 some (.inl ((),(),()))
def f188_l2_n (n:Nat) (x:f188_l2_head.den):=f188_l2 x.1.1 x.1.2.1 n x.1.2.2.1
def f188_l2_spec:LSpec:={ head:=f188_l2_head,outs:=f188_l2_outs,fn:=fun x=>f188_l2_n (((x.1.1.length:Int) - x.1.2.2.1).toNat + 1) x }
def f188 (a0:(List Int)) (a1:Int):Option (Bool × Unit) :=
 (f188_l2 a0 a1 (((a0.length:Int) - (0:Int)).toNat + 1) (0:Int)).bind fun o1 =>
 Sum.elim (fun o2 =>
 some (false,())) (fun o3 =>
 let u4:Bool:=o3.1.1
 some (u4,())) o1
def f188_spec:PSpec:={ args:=[(.sl tI),tI],res:=[.bool],fn:=fun x=>f188 x.1 x.2.1 }
noncomputable def f188_code:Code:=Tryz.f188.body.getD .skip
noncomputable def f188_env:Env0:={ C:=cfg,P:=[],L:=[(⟨12,0,188,2⟩,f188_l2_spec)],F:=[(188,Tryz.f188)] }
theorem f188_l2_ok:LoopOK f188_env 12 188 0 (loopAt f188_code 2) f188_l2_spec :=
 loopOK_of (by kernel_rfl) f188_l2_n (fun x o h=>⟨_,h⟩) (fun x=>by kernel_rfl) (fun n x=>by kernel_rfl)
theorem f188_run (x:tysDen (f188_spec).args):runF f188_env 188 Tryz.f188 f188_code (f188_spec).args (f188_spec).res x = f188_spec.fn x:=by kernel_rfl
theorem f188_enter:Enterable Tryz.prog 188:=enter_fun Tryz.func188 (by kernel_rfl)
theorem f188_envOK:EnvOK Tryz.prog f188_env:=envOK_of cds (by kernel_rfl) cfg_ok trivial trivial ⟨⟨Tryz.func188,by kernel_rfl⟩,trivial⟩ ⟨⟨Tryz.f188,f188_code,rfl,rfl,f188_l2_ok⟩,trivial⟩ trivial trivial
theorem f188_pure:PureOK Tryz.prog cfg 188 f188_spec:=pure_of_run f188_envOK (fn:=Tryz.f188) (c:=f188_code) rfl rfl f188_spec (fun x _ h=>(f188_run x).trans h)
end Go.V.G
namespace Go.V.G
open Go.Proofs
end Go.V.G
namespace Go.V.G
open Go.Proofs
def f187_l4x_head:Ann:={ env:=[(2,cP 21033002),(3,cP 21033003),(4,cP 21033004),(6,TI)],stk:=[[(4,cP 21004),(5,.ty .bool)],[(4,cP 4),(5,TI)]],bxs:=[(21033002,.var [.cst (.row 19006 .whole),.cst (.row 19010 .whole),.cst (.row 19014 .whole)]),(21033003,.var [TI,TI]),(21033004,.var [.cst .nils,.cst .nils,.cst .nils]),(21004,.var [.cst .nils,.cst .nils,.cst .nils]),(4,.var [.cst .nils,.cst .nils,.cst .nils]),(19006,.row tV false),(19010,.row tE false),(19014,.row tI true)] }
def f187_l4x_outs:List (Ex × Ann):=[((.exit 0),{ env:=[(2,cP 21033002),(3,cP 21033003),(4,cP 21033004),(6,TI)],stk:=[[(4,cP 21004),(5,.ty .bool)],[(4,cP 4),(5,TI)]],bxs:=[(21033002,.var [.cst (.row 19006 .whole),.cst (.row 19010 .whole),.cst (.row 19014 .whole)]),(21033003,.var [TI,TI]),(21033004,.var [.cst .nils,.cst .nils,.cst .nils]),(21004,.var [.cst .nils,.cst .nils,.cst .nils]),(4,.var [.cst .nils,.cst .nils,.cst .nils]),(19006,.row tV false),(19010,.row tE false),(19014,.row tI true)] })]
def f187_l4x (k0t5:Bool) (k1t5:Int) (b21033003g0:Int) (b21033003g1:Int) (r19006:(List Vx)) (r19010:(List Ed)) (r19014:(List Int)):Nat→Int→Option (outDen f187_l4x_outs)
 | 0,_=>none
 | k + 1,t6 =>
 bif (decide (t6 < (r19006.length:Int))) then
 bif (inR t6 r19006.length) then
 let v7:Int:=(at_ tV r19006 t6).1
 bif (decide (v7 < b21033003g0)) then
 f187_l4x k0t5 k1t5 b21033003g0 b21033003g1 r19006 r19010 r19014 k (IntKind.wrap .i64 (t6 + 1))
 else
 some ((t6,()),((k0t5,()),(k1t5,()),()),((),(b21033003g0,b21033003g1,()),(),(),(),r19006,r19010,r19014,()))
 else none
 else
 some ((t6,()),((k0t5,()),(k1t5,()),()),((),(b21033003g0,b21033003g1,()),(),(),(),r19006,r19010,r19014,()))
def f187_l4x_n (n:Nat) (x:f187_l4x_head.den):=f187_l4x x.2.1.1.1 x.2.1.2.1.1 x.2.2.2.1.1 x.2.2.2.1.2.1 x.2.2.2.2.2.2.2.1 x.2.2.2.2.2.2.2.2.1 x.2.2.2.2.2.2.2.2.2.1 n x.1.1
def f187_l4x_spec:LSpec:={ head:=f187_l4x_head,outs:=f187_l4x_outs,fn:=fun x=>f187_l4x_n (((x.2.2.2.2.2.2.2.1.length:Int) - x.1.1).toNat + 1) x }
def f128_l15x_head:Ann:={ env:=[(2,cP 21002),(3,cP 21003),(4,cP 21004),(10,TI)],stk:=[[(4,cP 4),(5,TI)]],bxs:=[(21002,.var [.cst (.row 19006 .whole),.cst (.row 19010 .whole),.cst (.row 19014 .whole)]),(21003,.var [TI,TI,TI,TI,TI,TI,.ty .bool,TI,TI,TI,TI,.ty (.sl tI),.ty (.sl tI)]),(21004,.var [.cst .nils,.cst .nils,.cst .nils]),(4,.var [.cst .nils,.cst .nils,.cst .nils]),(19006,.row tV false),(19010,.row tE false),(19014,.row tI true)] }
def f128_l15x_outs:List (Ex × Ann):=[((.exit 1),{ env:=[(2,cP 21002),(3,cP 21003),(4,cP 21004),(10,TI)],stk:=[[(4,cP 4),(5,TI)]],bxs:=[(21002,.var [.cst (.row 19006 .whole),.cst (.row 19010 .whole),.cst (.row 19014 .whole)]),(21003,.var [TI,TI,TI,TI,TI,TI,.ty .bool,TI,TI,TI,TI,.ty (.sl tI),.ty (.sl tI)]),(21004,.var [.cst .nils,.cst .nils,.cst .nils]),(4,.var [.cst .nils,.cst .nils,.cst .nils]),(19006,.row tV false),(19010,.row tE false),(19014,.row tI true)] })]
def f128_l15x (k0t5:Int) (b21003g0:Int) (b21003g1:Int) (b21003g2:Int) (b21003g3:Int) (b21003g4:Int) (b21003g5:Int) (b21003g6:Bool) (b21003g7:Int) (b21003g8:Int) (b21003g9:Int) (b21003g10:Int) (b21003g11:(List Int)) (b21003g12:(List Int)) (r19006:(List Vx)) (r19010:(List Ed)) (r19014:(List Int)):Nat→Int→Option (outDen f128_l15x_outs)
 | 0,_=>none
 | k + 1,t10 =>
 bif (decide (t10 < (r19010.length:Int))) then
 bif (inR t10 r19010.length) then
 let v24:Int:=(at_ tE r19010 t10).1
 bif (decide (v24 < b21003g3)) then
 f128_l15x k0t5 b21003g0 b21003g1 b21003g2 b21003g3 b21003g4 b21003g5 b21003g6 b21003g7 b21003g8 b21003g9 b21003g10 b21003g11 b21003g12 r19006 r19010 r19014 k (IntKind.wrap .i64 (t10 + 1))
 else
 some ((t10,()),((k0t5,()),()),((),(b21003g0,b21003g1,b21003g2,b21003g3,b21003g4,b21003g5,b21003g6,b21003g7,b21003g8,b21003g9,b21003g10,b21003g11,b21003g12,()),(),(),r19006,r19010,r19014,()))
 else none
 else
 some ((t10,()),((k0t5,()),()),((),(b21003g0,b21003g1,b21003g2,b21003g3,b21003g4,b21003g5,b21003g6,b21003g7,b21003g8,b21003g9,b21003g10,b21003g11,b21003g12,()),(),(),r19006,r19010,r19014,()))
def f128_l15x_n (n:Nat) (x:f128_l15x_head.den):=f128_l15x x.2.1.1.1 x.2.2.2.1.1 x.2.2.2.1.2.1 x.2.2.2.1.2.2.1 x.2.2.2.1.2.2.2.1 x.2.2.2.1.2.2.2.2.1 x.2.2.2.1.2.2.2.2.2.1 x.2.2.2.1.2.2.2.2.2.2.1 x.2.2.2.1.2.2.2.2.2.2.2.1 x.2.2.2.1.2.2.2.2.2.2.2.2.1 x.2.2.2.1.2.2.2.2.2.2.2.2.2.1 x.2.2.2.1.2.2.2.2.2.2.2.2.2.2.1 x.2.2.2.1.2.2.2.2.2.2.2.2.2.2.2.1 x.2.2.2.1.2.2.2.2.2.2.2.2.2.2.2.2.1 x.2.2.2.2.2.2.1 x.2.2.2.2.2.2.2.1 x.2.2.2.2.2.2.2.2.1 n x.1.1
def f128_l15x_spec:LSpec:={ head:=f128_l15x_head,outs:=f128_l15x_outs,fn:=fun x=>f128_l15x_n (((x.2.2.2.2.2.2.2.1.length:Int) - x.1.1).toNat + 1) x }
def f128_l38x_head:Ann:={ env:=[(2,cP 21002),(3,cP 21003),(4,cP 21004),(6,TI),(11,TI)],stk:=[[(4,cP 4),(5,TI)]],bxs:=[(21002,.var [.cst (.row 19006 .whole),.cst (.row 19010 .whole),.cst (.row 19014 .whole)]),(21003,.var [TI,TI,TI,TI,TI,TI,.ty .bool,TI,TI,TI,TI,.ty (.sl tI),.ty (.sl tI)]),(21004,.var [.cst .nils,.cst .nils,.cst .nils]),(4,.var [.cst .nils,.cst .nils,.cst .nils]),(19006,.row tV false),(19010,.row tE false),(19014,.row tI true)] }
def f128_l38x_outs:List (Ex × Ann):=[((.exit 3),{ env:=[(2,cP 21002),(4,cP 21004),(6,TI)],stk:=[[(4,cP 4),(5,TI)]],bxs:=[(21002,.var [.cst (.row 19006 .whole),.cst (.row 19010 .whole),.cst (.row 19014 .whole)]),(21004,.var [.cst .nils,.cst .nils,.cst .nils]),(4,.var [.cst .nils,.cst .nils,.cst .nils]),(19006,.row tV false),(19010,.row tE false),(19014,.row tI true)] })]
def f128_l38x (t6:Int) (k0t5:Int) (b21003g0:Int) (b21003g1:Int) (b21003g2:Int) (b21003g3:Int) (b21003g4:Int) (b21003g5:Int) (b21003g6:Bool) (b21003g7:Int) (b21003g8:Int) (b21003g9:Int) (b21003g10:Int) (b21003g11:(List Int)) (b21003g12:(List Int)) (r19006:(List Vx)) (r19014:(List Int)):Nat→Int→(List Ed)→Option (outDen f128_l38x_outs)
 | 0,_,_=>none
 | k + 1,t11,r19010 =>
 bif (decide (t11 < (r19010.length:Int))) then
 bif (inR t11 r19010.length) then
 let v48:Int:=(at_ tE r19010 t11).2.1
 bif (decide (v48 = b21003g9)) then
 bif (inR t11 r19010.length) then
 bif (inR t11 (r19010.set (Int.toNat t11) ((at_ tE r19010 t11).1,(b21003g10,(at_ tE r19010 t11).2.2))).length) then
 let v49:Int:=(at_ tE (r19010.set (Int.toNat t11) ((at_ tE r19010 t11).1,(b21003g10,(at_ tE r19010 t11).2.2))) t11).2.2.1
 bif (decide (v49 = b21003g9)) then
 bif (inR t11 (r19010.set (Int.toNat t11) ((at_ tE r19010 t11).1,(b21003g10,(at_ tE r19010 t11).2.2))).length) then f128_l38x t6 k0t5 b21003g0 b21003g1 b21003g2 b21003g3 b21003g4 b21003g5 b21003g6 b21003g7 b21003g8 b21003g9 b21003g10 b21003g11 b21003g12 r19006 r19014 k (IntKind.wrap .i64 (t11 + 1)) ((r19010.set (Int.toNat t11) ((at_ tE r19010 t11).1,(b21003g10,(at_ tE r19010 t11).2.2))).set (Int.toNat t11) ((at_ tE (r19010.set (Int.toNat t11) ((at_ tE r19010 t11).1,(b21003g10,(at_ tE r19010 t11).2.2))) t11).1,((at_ tE (r19010.set (Int.toNat t11) ((at_ tE r19010 t11).1,(b21003g10,(at_ tE r19010 t11).2.2))) t11).2.1,(b21003g10,(at_ tE (r19010.set (Int.toNat t11) ((at_ tE r19010 t11).1,(b21003g10,(at_ tE r19010 t11).2.2))) t11).2.2.2)))) else none
 else
 f128_l38x t6 k0t5 b21003g0 b21003g1 b21003g2 b21003g3 b21003g4 b21003g5 b21003g6 b21003g7 b21003g8 b21003g9 b21003g10 b21003g11 b21003g12 r19006 r19014 k (IntKind.wrap .i64 (t11 + 1)) (r19010.set (Int.toNat t11) ((at_ tE r19010 t11).1,(b21003g10,(at_ tE r19010 t11).2.2)))
 else none
 else none
 else
 bif (inR t11 r19010.length) then
 let v50:Int:=(at_ tE r19010 t11).2.2.1
 bif (decide (v50 = b21003g9)) then
 bif (inR t11 r19010.length) then f128_l38x t6 k0t5 b21003g0 b21003g1 b21003g2 b21003g3 b21003g4 b21003g5 b21003g6 b21003g7 b21003g8 b21003g9 b21003g10 b21003g11 b21003g12 r19006 r19014 k (IntKind.wrap .i64 (t11 + 1)) (r19010.set (Int.toNat t11) ((at_ tE r19010 t11).1,((at_ tE r19010 t11).2.1,(b21003g10,(at_ tE r19010 t11).2.2.2)))) else none
 else
 f128_l38x t6 k0t5 b21003g0 b21003g1 b21003g2 b21003g3 b21003g4 b21003g5 b21003g6 b21003g7 b21003g8 b21003g9 b21003g10 b21003g11 b21003g12 r19006 r19014 k (IntKind.wrap .i64 (t11 + 1)) r19010
 else none
 else none
 else
 some ((t6,()),((k0t5,()),()),((),(),(),r19006,r19010,r19014,()))
def f128_l38x_n (n:Nat) (x:f128_l38x_head.den):=f128_l38x x.1.1 x.2.1.1.1 x.2.2.2.1.1 x.2.2.2.1.2.1 x.2.2.2.1.2.2.1 x.2.2.2.1.2.2.2.1 x.2.2.2.1.2.2.2.2.1 x.2.2.2.1.2.2.2.2.2.1 x.2.2.2.1.2.2.2.2.2.2.1 x.2.2.2.1.2.2.2.2.2.2.2.1 x.2.2.2.1.2.2.2.2.2.2.2.2.1 x.2.2.2.1.2.2.2.2.2.2.2.2.2.1 x.2.2.2.1.2.2.2.2.2.2.2.2.2.2.1 x.2.2.2.1.2.2.2.2.2.2.2.2.2.2.2.1 x.2.2.2.1.2.2.2.2.2.2.2.2.2.2.2.2.1 x.2.2.2.2.2.2.1 x.2.2.2.2.2.2.2.2.1 n x.1.2.1 x.2.2.2.2.2.2.2.1
def f128_l38x_spec:LSpec:={ head:=f128_l38x_head,outs:=f128_l38x_outs,fn:=fun x=>f128_l38x_n (((x.2.2.2.2.2.2.2.1.length:Int) - x.1.2.1).toNat + 1) x }
def f128_l47x_head:Ann:={ env:=[(2,cP 21002),(3,cP 21003),(4,cP 21004),(6,TI),(12,TI)],stk:=[[(4,cP 4),(5,TI)]],bxs:=[(21002,.var [.cst (.row 19006 .whole),.cst (.row 19010 .whole),.cst (.row 19014 .whole)]),(21003,.var [TI,TI,TI,TI,TI,TI,.ty .bool,TI,TI,TI,TI,.ty (.sl tI),.ty (.sl tI)]),(21004,.var [.cst .nils,.cst .nils,.cst .nils]),(4,.var [.cst .nils,.cst .nils,.cst .nils]),(19006,.row tV false),(19010,.row tE false),(19014,.row tI true)] }
def f128_l47x_outs:List (Ex × Ann):=[((.exit 5),{ env:=[(2,cP 21002),(3,cP 21003),(4,cP 21004),(6,TI)],stk:=[[(4,cP 4),(5,TI)]],bxs:=[(21002,.var [.cst (.row 19006 .whole),.cst (.row 19010 .whole),.cst (.row 19014 .whole)]),(21003,.var [TI,TI,TI,TI,TI,TI,.ty .bool,TI,TI,TI,TI,.ty (.sl tI),.ty (.sl tI)]),(21004,.var [.cst .nils,.cst .nils,.cst .nils]),(4,.var [.cst .nils,.cst .nils,.cst .nils]),(19006,.row tV false),(19010,.row tE false),(19014,.row tI true)] }),(.ret,{ env:=[(4,cP 21004),(5,.ty .bool)],stk:=[[(4,cP 4),(5,TI)]],bxs:=[(21004,.var [.cst (.row 19006 .whole),.cst (.row 19010 .whole),.cst (.row 19014 .whole)]),(4,.var [.cst .nils,.cst .nils,.cst .nils]),(19006,.row tV false),(19010,.row tE false),(19014,.row tI true)] })]
def f128_l47x (t6:Int) (k0t5:Int) (b21003g0:Int) (b21003g1:Int) (b21003g2:Int) (b21003g3:Int) (b21003g4:Int) (b21003g5:Int) (b21003g6:Bool) (b21003g7:Int) (b21003g8:Int) (b21003g9:Int) (b21003g10:Int) (b21003g11:(List Int)) (b21003g12:(List Int)) (r19006:(List Vx)) (r19010:(List Ed)) (r19014:(List Int)):Nat→Int→Option (outDen f128_l47x_outs)
 | 0,_=>none
 | k + 1,t12 =>
 let v57:Bool:=(decide (t12 < (b21003g11.length:Int)))
 bif v57 then
 bif (inR t12 b21003g11.length) then
 (f91 (r19006,(r19010,(r19014,()))) (at_ tI b21003g11 t12)).bind fun y58 =>
 bif (decide (y58.1 ≠ b21003g9)) then
 some (.inr ((false,()),((k0t5,()),()),((),(),r19006,r19010,r19014,())))
 else
 bif (decide (t12 > (0:Int))) then
 bif (inR t12 b21003g11.length) then
 bif (inR (IntKind.wrap .i64 (t12 - (1:Int))) b21003g11.length) then
 let v59:Int:=(at_ tI b21003g11 (IntKind.wrap .i64 (t12 - (1:Int))))
 let v60:Bool:=(decide ((at_ tI b21003g11 t12)≤v59))
 bif v60 then
 some (.inr ((false,()),((k0t5,()),()),((),(),r19006,r19010,r19014,())))
 else
 f128_l47x t6 k0t5 b21003g0 b21003g1 b21003g2 b21003g3 b21003g4 b21003g5 b21003g6 b21003g7 b21003g8 b21003g9 b21003g10 b21003g11 b21003g12 r19006 r19010 r19014 k (IntKind.wrap .i64 (t12 + 1))
 else none
 else none
 else
 f128_l47x t6 k0t5 b21003g0 b21003g1 b21003g2 b21003g3 b21003g4 b21003g5 b21003g6 b21003g7 b21003g8 b21003g9 b21003g10 b21003g11 b21003g12 r19006 r19010 r19014 k (IntKind.wrap .i64 (t12 + 1))
 else none
 else
 some (.inl ((t6,()),((k0t5,()),()),((),(b21003g0,b21003g1,b21003g2,b21003g3,b21003g4,b21003g5,b21003g6,b21003g7,b21003g8,b21003g9,b21003g10,b21003g11,b21003g12,()),(),(),r19006,r19010,r19014,())))
def f128_l47x_n (n:Nat) (x:f128_l47x_head.den):=f128_l47x x.1.1 x.2.1.1.1 x.2.2.2.1.1 x.2.2.2.1.2.1 x.2.2.2.1.2.2.1 x.2.2.2.1.2.2.2.1 x.2.2.2.1.2.2.2.2.1 x.2.2.2.1.2.2.2.2.2.1 x.2.2.2.1.2.2.2.2.2.2.1 x.2.2.2.1.2.2.2.2.2.2.2.1 x.2.2.2.1.2.2.2.2.2.2.2.2.1 x.2.2.2.1.2.2.2.2.2.2.2.2.2.1 x.2.2.2.1.2.2.2.2.2.2.2.2.2.2.1 x.2.2.2.1.2.2.2.2.2.2.2.2.2.2.2.1 x.2.2.2.1.2.2.2.2.2.2.2.2.2.2.2.2.1 x.2.2.2.2.2.2.1 x.2.2.2.2.2.2.2.1 x.2.2.2.2.2.2.2.2.1 n x.1.2.1
def f128_l47x_spec:LSpec:={ head:=f128_l47x_head,outs:=f128_l47x_outs,fn:=fun x=>f128_l47x_n (((x.2.2.2.1.2.2.2.2.2.2.2.2.2.2.2.1.length:Int) - x.1.2.1).toNat + 1) x }
def f187_l4y_head:Ann:={ env:=[(2,cP 21293002),(3,cP 21293003),(4,cP 21293004),(6,TI)],stk:=[[(2,cP 21002),(3,cP 21003),(4,cP 21004),(6,TI)],[(4,cP 4),(5,TI)]],bxs:=[(21293002,.var [.cst (.row 19006 .whole),.cst (.row 19010 .whole),.cst (.row 19014 .whole)]),(21293003,.var [TI,TI]),(21293004,.var [.cst .nils,.cst .nils,.cst .nils]),(21002,.var [.cst (.row 19006 .whole),.cst (.row 19010 .whole),.cst (.row 19014 .whole)]),(21003,.var [TI,TI,TI,TI,TI,TI,.ty .bool,TI,TI,TI,TI,.ty (.sl tI),.ty (.sl tI)]),(21004,.var [.cst .nils,.cst .nils,.cst .nils]),(4,.var [.cst .nils,.cst .nils,.cst .nils]),(19006,.row tV false),(19010,.row tE false),(19014,.row tI true)] }
def f187_l4y_outs:List (Ex × Ann):=[((.exit 0),{ env:=[(2,cP 21293002),(3,cP 21293003),(4,cP 21293004),(6,TI)],stk:=[[(2,cP 21002),(3,cP 21003),(4,cP 21004),(6,TI)],[(4,cP 4),(5,TI)]],bxs:=[(21293002,.var [.cst (.row 19006 .whole),.cst (.row 19010 .whole),.cst (.row 19014 .whole)]),(21293003,.var [TI,TI]),(21293004,.var [.cst .nils,.cst .nils,.cst .nils]),(21002,.var [.cst (.row 19006 .whole),.cst (.row 19010 .whole),.cst (.row 19014 .whole)]),(21003,.var [TI,TI,TI,TI,TI,TI,.ty .bool,TI,TI,TI,TI,.ty (.sl tI),.ty (.sl tI)]),(21004,.var [.cst .nils,.cst .nils,.cst .nils]),(4,.var [.cst .nils,.cst .nils,.cst .nils]),(19006,.row tV false),(19010,.row tE false),(19014,.row tI true)] })]
def f187_l4y (k0t6:Int) (k1t5:Int) (b21293003g0:Int) (b21293003g1:Int) (b21003g0:Int) (b21003g1:Int) (b21003g2:Int) (b21003g3:Int) (b21003g4:Int) (b21003g5:Int) (b21003g6:Bool) (b21003g7:Int) (b21003g8:Int) (b21003g9:Int) (b21003g10:Int) (b21003g11:(List Int)) (b21003g12:(List Int)) (r19006:(List Vx)) (r19010:(List Ed)) (r19014:(List Int)):Nat→Int→Option (outDen f187_l4y_outs)
 | 0,_=>none
 | k + 1,t6 =>
 bif (decide (t6 < (r19006.length:Int))) then
 bif (inR t6 r19006.length) then
 let v84:Int:=(at_ tV r19006 t6).1
 bif (decide (v84 < b21293003g0)) then
 f187_l4y k0t6 k1t5 b21293003g0 b21293003g1 b21003g0 b21003g1 b21003g2 b21003g3 b21003g4 b21003g5 b21003g6 b21003g7 b21003g8 b21003g9 b21003g10 b21003g11 b21003g12 r19006 r19010 r19014 k (IntKind.wrap .i64 (t6 + 1))
 else
 some ((t6,()),((k0t6,()),(k1t5,()),()),((),(b21293003g0,b21293003g1,()),(),(),(b21003g0,b21003g1,b21003g2,b21003g3,b21003g4,b21003g5,b21003g6,b21003g7,b21003g8,b21003g9,b21003g10,b21003g11,b21003g12,()),(),(),r19006,r19010,r19014,()))
 else none
 else
 some ((t6,()),((k0t6,()),(k1t5,()),()),((),(b21293003g0,b21293003g1,()),(),(),(b21003g0,b21003g1,b21003g2,b21003g3,b21003g4,b21003g5,b21003g6,b21003g7,b21003g8,b21003g9,b21003g10,b21003g11,b21003g12,()),(),(),r19006,r19010,r19014,()))
def f187_l4y_n (n:Nat) (x:f187_l4y_head.den):=f187_l4y x.2.1.1.1 x.2.1.2.1.1 x.2.2.2.1.1 x.2.2.2.1.2.1 x.2.2.2.2.2.2.1.1 x.2.2.2.2.2.2.1.2.1 x.2.2.2.2.2.2.1.2.2.1 x.2.2.2.2.2.2.1.2.2.2.1 x.2.2.2.2.2.2.1.2.2.2.2.1 x.2.2.2.2.2.2.1.2.2.2.2.2.1 x.2.2.2.2.2.2.1.2.2.2.2.2.2.1 x.2.2.2.2.2.2.1.2.2.2.2.2.2.2.1 x.2.2.2.2.2.2.1.2.2.2.2.2.2.2.2.1 x.2.2.2.2.2.2.1.2.2.2.2.2.2.2.2.2.1 x.2.2.2.2.2.2.1.2.2.2.2.2.2.2.2.2.2.1 x.2.2.2.2.2.2.1.2.2.2.2.2.2.2.2.2.2.2.1 x.2.2.2.2.2.2.1.2.2.2.2.2.2.2.2.2.2.2.2.1 x.2.2.2.2.2.2.2.2.2.1 x.2.2.2.2.2.2.2.2.2.2.1 x.2.2.2.2.2.2.2.2.2.2.2.1 n x.1.1
def f187_l4y_spec:LSpec:={ head:=f187_l4y_head,outs:=f187_l4y_outs,fn:=fun x=>f187_l4y_n (((x.2.2.2.2.2.2.2.2.2.1.length:Int) - x.1.1).toNat + 1) x }
def f128_l55x_head:Ann:={ env:=[(3,cP 21003),(4,cP 21004),(13,cP 21013),(15,TI)],stk:=[[(4,cP 4),(5,TI)]],bxs:=[(21003,.var [TI,TI,TI,TI,TI,TI,.ty .bool,TI,TI,TI,TI,.ty (.sl tI),.ty (.sl tI)]),(21004,.var [.cst .nils,.cst .nils,.cst .nils]),(21013,.var [.cst (.row 19006 .whole),.cst (.row 19010 .whole),.cst (.row 19014 .whole)]),(4,.var [.cst .nils,.cst .nils,.cst .nils]),(19006,.row tV false),(19010,.row tE false),(19014,.row tI true)] }
def f128_l55x_outs:List (Ex × Ann):=[((.exit 7),{ env:=[(4,cP 21004),(13,cP 21013)],stk:=[[(4,cP 4),(5,TI)]],bxs:=[(21004,.var [.cst .nils,.cst .nils,.cst .nils]),(21013,.var [.cst (.row 19006 .whole),.cst (.row 19010 .whole),.cst (.row 19014 .whole)]),(4,.var [.cst .nils,.cst .nils,.cst .nils]),(19006,.row tV false),(19010,.row tE false),(19014,.row tI true)] })]
def f128_l55x (k0t5:Int) (b21003g0:Int) (b21003g1:Int) (b21003g2:Int) (b21003g3:Int) (b21003g4:Int) (b21003g5:Int) (b21003g6:Bool) (b21003g7:Int) (b21003g8:Int) (b21003g9:Int) (b21003g10:Int) (b21003g11:(List Int)) (b21003g12:(List Int)) (r19006:(List Vx)) (r19014:(List Int)):Nat→Int→(List Ed)→Option (outDen f128_l55x_outs)
 | 0,_,_=>none
 | k + 1,t15,r19010 =>
 let v107:Bool:=(decide (t15 < (b21003g11.length:Int)))
 bif v107 then
 bif (inR t15 b21003g11.length) then
 let v108:Int:=(IntKind.wrap .i64 (Int.tdiv (at_ tI b21003g11 t15) (2:Int)))
 (f57 (r19006,(r19010,(r19014,()))) v108).bind fun y109 =>
 bif (inR t15 b21003g11.length) then
 let v110:Int:=(Int.tmod (at_ tI b21003g11 t15) (2:Int))
 bif (decide (v110 = (0:Int))) then
 bif (inR y109.1 r19010.length) then f128_l55x k0t5 b21003g0 b21003g1 b21003g2 b21003g3 b21003g4 b21003g5 b21003g6 b21003g7 b21003g8 b21003g9 b21003g10 b21003g11 b21003g12 r19006 r19014 k (IntKind.wrap .i64 (t15 + 1)) (r19010.set (Int.toNat y109.1) ((at_ tE r19010 y109.1).1,(b21003g1,(at_ tE r19010 y109.1).2.2))) else none
 else
 bif (inR y109.1 r19010.length) then f128_l55x k0t5 b21003g0 b21003g1 b21003g2 b21003g3 b21003g4 b21003g5 b21003g6 b21003g7 b21003g8 b21003g9 b21003g10 b21003g11 b21003g12 r19006 r19014 k (IntKind.wrap .i64 (t15 + 1)) (r19010.set (Int.toNat y109.1) ((at_ tE r19010 y109.1).1,((at_ tE r19010 y109.1).2.1,(b21003g1,(at_ tE r19010 y109.1).2.2.2)))) else none
 else none
 else none
 else
 some ((),((k0t5,()),()),((),(),(),r19006,r19010,r19014,()))
def f128_l55x_n (n:Nat) (x:f128_l55x_head.den):=f128_l55x x.2.1.1.1 x.2.2.1.1 x.2.2.1.2.1 x.2.2.1.2.2.1 x.2.2.1.2.2.2.1 x.2.2.1.2.2.2.2.1 x.2.2.1.2.2.2.2.2.1 x.2.2.1.2.2.2.2.2.2.1 x.2.2.1.2.2.2.2.2.2.2.1 x.2.2.1.2.2.2.2.2.2.2.2.1 x.2.2.1.2.2.2.2.2.2.2.2.2.1 x.2.2.1.2.2.2.2.2.2.2.2.2.2.1 x.2.2.1.2.2.2.2.2.2.2.2.2.2.2.1 x.2.2.1.2.2.2.2.2.2.2.2.2.2.2.2.1 x.2.2.2.2.2.2.1 x.2.2.2.2.2.2.2.2.1 n x.1.1 x.2.2.2.2.2.2.2.1
def f128_l55x_spec:LSpec:={ head:=f128_l55x_head,outs:=f128_l55x_outs,fn:=fun x=>f128_l55x_n (((x.2.2.1.2.2.2.2.2.2.2.2.2.2.2.1.length:Int) - x.1.1).toNat + 1) x }
def f83_in (a0:Gr) (a1:(Int × (Vx × (Ed × (Int × (Int × ((List Int) × ((List Int) × Unit)))))))):Option (Gr × Int × Unit) :=
 (f55 a0 a1.2.2.2.1).bind fun y3 =>
 (f57 a0 a1.2.2.2.1).bind fun y4 =>
 bif (decide (a1.1 = (1:Int))) then
 (f111 a1.2.1).bind fun y5 =>
 bif (!y5.1) then
 some (([],([],([],()))),(30:Int),())
 else
 (f55 a0 a1.2.1.1).bind fun y6 =>
 bif (decide (y6.1 ≥ (0:Int))) then
 some (([],([],([],()))),(30:Int),())
 else
 (f187_l4x false (0:Int) a1.2.1.1 a1.2.1.2.1 a0.1 a0.2.1 a0.2.2.1 (((a0.1.length:Int) - (0:Int)).toNat + 1) (0:Int)).bind fun o8 =>
 let u9:Int:=o8.1.1
 let u12:Int:=o8.2.2.2.1.1
 let u13:Int:=o8.2.2.2.1.2.1
 let u14:(List Vx):=o8.2.2.2.2.2.2.2.1
 let u15:(List Ed):=o8.2.2.2.2.2.2.2.2.1
 let u16:(List Int):=o8.2.2.2.2.2.2.2.2.2.1
 bif (cutOk u14.length none (some u9) && decide (u9 = u9)) then bif (cutOk u14.length (some u9) none) then bif (decide (([(u12,(u13,()))]:List Vx).length + ((u14.drop (Int.toNat u9)).take (cutLen u14.length (some u9) none)).length≤appLim)) then bif (decide (((u14.drop 0).take (cutLen u14.length none (some u9))).length + (([(u12,(u13,()))]:List Vx)++((u14.drop (Int.toNat u9)).take (cutLen u14.length (some u9) none))).length≤appLim)) then some (((((u14.drop 0).take (cutLen u14.length none (some u9)))++(([(u12,(u13,()))]:List Vx)++((u14.drop (Int.toNat u9)).take (cutLen u14.length (some u9) none)))),(u15,(u16,()))),(0:Int),()) else none else none else none else none
 else
 bif (decide (a1.1 = (2:Int))) then
 bif (decide (y3.1 < (0:Int))) then
 some (([],([],([],()))),(30:Int),())
 else
 (f50 a0 a1.2.2.2.1).bind fun y17 =>
 let v18:Bool:=(decide ((y17.1.length:Int) > (0:Int)))
 bif v18 then
 some (([],([],([],()))),(30:Int),())
 else
 (f188 a0.2.2.1 a1.2.2.2.1).bind fun y19 =>
 bif y19.1 then
 some (([],([],([],()))),(30:Int),())
 else
 bif (cutOk a0.1.length none (some y3.1) && decide (y3.1 = y3.1)) then bif (cutOk a0.1.length (some (IntKind.wrap .i64 (y3.1 + 1))) none) then bif (decide (((a0.1.drop 0).take (cutLen a0.1.length none (some y3.1))).length + ((a0.1.drop (Int.toNat (IntKind.wrap .i64 (y3.1 + 1)))).take (cutLen a0.1.length (some (IntKind.wrap .i64 (y3.1 + 1))) none)).length≤appLim)) then some (((((a0.1.drop 0).take (cutLen a0.1.length none (some y3.1)))++((a0.1.drop (Int.toNat (IntKind.wrap .i64 (y3.1 + 1)))).take (cutLen a0.1.length (some (IntKind.wrap .i64 (y3.1 + 1))) none))),a0.2),(0:Int),()) else none else none else none
 else
 bif (decide (a1.1 = (3:Int))) then
 (f112 a1.2.2.1).bind fun y20 =>
 bif (!y20.1) then
 some (([],([],([],()))),(30:Int),())
 else
 (f55 a0 a1.2.2.1.2.1).bind fun y21 =>
 bif (decide (y21.1 < (0:Int))) then
 some (([],([],([],()))),(30:Int),())
 else
 (f55 a0 a1.2.2.1.2.2.1).bind fun y22 =>
 bif (decide (y22.1 < (0:Int))) then
 some (([],([],([],()))),(30:Int),())
 else
 (f57 a0 a1.2.2.1.1).bind fun y23 =>
 bif (decide (y23.1 ≥ (0:Int))) then
 some (([],([],([],()))),(30:Int),())
 else
 (f128_l15x (0:Int) a1.1 a1.2.1.1 a1.2.1.2.1 a1.2.2.1.1 a1.2.2.1.2.1 a1.2.2.1.2.2.1 a1.2.2.1.2.2.2.1 a1.2.2.1.2.2.2.2.1 a1.2.2.1.2.2.2.2.2.1 a1.2.2.2.1 a1.2.2.2.2.1 a1.2.2.2.2.2.1 a1.2.2.2.2.2.2.1 a0.1 a0.2.1 a0.2.2.1 (((a0.2.1.length:Int) - (0:Int)).toNat + 1) (0:Int)).bind fun o25 =>
 let u26:Int:=o25.1.1
 let u31:Int:=o25.2.2.2.1.2.2.2.1
 let u32:Int:=o25.2.2.2.1.2.2.2.2.1
 let u33:Int:=o25.2.2.2.1.2.2.2.2.2.1
 let u34:Bool:=o25.2.2.2.1.2.2.2.2.2.2.1
 let u35:Int:=o25.2.2.2.1.2.2.2.2.2.2.2.1
 let u36:Int:=o25.2.2.2.1.2.2.2.2.2.2.2.2.1
 let u41:(List Vx):=o25.2.2.2.2.2.2.1
 let u42:(List Ed):=o25.2.2.2.2.2.2.2.1
 let u43:(List Int):=o25.2.2.2.2.2.2.2.2.1
 bif (cutOk u42.length none (some u26) && decide (u26 = u26)) then bif (cutOk u42.length (some u26) none) then bif (decide (([(u31,(u32,(u33,(u34,(u35,(u36,()))))))]:List Ed).length + ((u42.drop (Int.toNat u26)).take (cutLen u42.length (some u26) none)).length≤appLim)) then bif (decide (((u42.drop 0).take (cutLen u42.length none (some u26))).length + (([(u31,(u32,(u33,(u34,(u35,(u36,()))))))]:List Ed)++((u42.drop (Int.toNat u26)).take (cutLen u42.length (some u26) none))).length≤appLim)) then some ((u41,((((u42.drop 0).take (cutLen u42.length none (some u26)))++(([(u31,(u32,(u33,(u34,(u35,(u36,()))))))]:List Ed)++((u42.drop (Int.toNat u26)).take (cutLen u42.length (some u26) none)))),(u43,()))),(0:Int),()) else none else none else none else none
 else
 bif (decide (a1.1 = (4:Int))) then
 bif (decide (y4.1 < (0:Int))) then
 some (([],([],([],()))),(30:Int),())
 else
 bif (cutOk a0.2.1.length none (some y4.1) && decide (y4.1 = y4.1)) then bif (cutOk a0.2.1.length (some (IntKind.wrap .i64 (y4.1 + 1))) none) then bif (decide (((a0.2.1.drop 0).take (cutLen a0.2.1.length none (some y4.1))).length + ((a0.2.1.drop (Int.toNat (IntKind.wrap .i64 (y4.1 + 1)))).take (cutLen a0.2.1.length (some (IntKind.wrap .i64 (y4.1 + 1))) none)).length≤appLim)) then some ((a0.1,((((a0.2.1.drop 0).take (cutLen a0.2.1.length none (some y4.1)))++((a0.2.1.drop (Int.toNat (IntKind.wrap .i64 (y4.1 + 1)))).take (cutLen a0.2.1.length (some (IntKind.wrap .i64 (y4.1 + 1))) none))),a0.2.2)),(0:Int),()) else none else none else none
 else
 bif (decide (a1.1 = (5:Int))) then
 bif (decide (y4.1 < (0:Int))) then
 some (([],([],([],()))),(30:Int),())
 else
 (f171 a1.2.2.2.2.1 (-1000:Int) (1000:Int)).bind fun y44 =>
 bif (!y44.1) then
 some (([],([],([],()))),(30:Int),())
 else
 bif (inR y4.1 a0.2.1.length) then some ((a0.1,((a0.2.1.set (Int.toNat y4.1) ((at_ tE a0.2.1 y4.1).1,((at_ tE a0.2.1 y4.1).2.1,((at_ tE a0.2.1 y4.1).2.2.1,((at_ tE a0.2.1 y4.1).2.2.2.1,(a1.2.2.2.2.1,(at_ tE a0.2.1 y4.1).2.2.2.2.2)))))),a0.2.2)),(0:Int),()) else none
 else
 bif (decide (a1.1 = (6:Int))) then
 bif (decide (y4.1 < (0:Int))) then
 some (([],([],([],()))),(30:Int),())
 else
 (f171 a1.2.2.2.2.1 (0:Int) (1000:Int)).bind fun y45 =>
 bif (!y45.1) then
 some (([],([],([],()))),(30:Int),())
 else
 bif (inR y4.1 a0.2.1.length) then some ((a0.1,((a0.2.1.set (Int.toNat y4.1) ((at_ tE a0.2.1 y4.1).1,((at_ tE a0.2.1 y4.1).2.1,((at_ tE a0.2.1 y4.1).2.2.1,((at_ tE a0.2.1 y4.1).2.2.2.1,((at_ tE a0.2.1 y4.1).2.2.2.2.1,(a1.2.2.2.2.1,()))))))),a0.2.2)),(0:Int),()) else none
 else
 bif (decide (a1.1 = (7:Int))) then
 bif (decide (y3.1 < (0:Int))) then
 some (([],([],([],()))),(30:Int),())
 else
 (f55 a0 a1.2.2.2.2.1).bind fun y46 =>
 bif (decide (y46.1 < (0:Int))) then
 some (([],([],([],()))),(30:Int),())
 else
 bif (decide (a1.2.2.2.1 = a1.2.2.2.2.1)) then
 some (([],([],([],()))),(30:Int),())
 else
 (f188 a0.2.2.1 a1.2.2.2.1).bind fun y47 =>
 bif y47.1 then
 some (([],([],([],()))),(30:Int),())
 else
 (f128_l38x y3.1 (0:Int) a1.1 a1.2.1.1 a1.2.1.2.1 a1.2.2.1.1 a1.2.2.1.2.1 a1.2.2.1.2.2.1 a1.2.2.1.2.2.2.1 a1.2.2.1.2.2.2.2.1 a1.2.2.1.2.2.2.2.2.1 a1.2.2.2.1 a1.2.2.2.2.1 a1.2.2.2.2.2.1 a1.2.2.2.2.2.2.1 a0.1 a0.2.2.1 (((a0.2.1.length:Int) - (0:Int)).toNat + 1) (0:Int) a0.2.1).bind fun o51 =>
 let u52:Int:=o51.1.1
 let u54:(List Vx):=o51.2.2.2.2.2.1
 let u55:(List Ed):=o51.2.2.2.2.2.2.1
 let u56:(List Int):=o51.2.2.2.2.2.2.2.1
 bif (cutOk u54.length none (some u52) && decide (u52 = u52)) then bif (cutOk u54.length (some (IntKind.wrap .i64 (u52 + 1))) none) then bif (decide (((u54.drop 0).take (cutLen u54.length none (some u52))).length + ((u54.drop (Int.toNat (IntKind.wrap .i64 (u52 + 1)))).take (cutLen u54.length (some (IntKind.wrap .i64 (u52 + 1))) none)).length≤appLim)) then some (((((u54.drop 0).take (cutLen u54.length none (some u52)))++((u54.drop (Int.toNat (IntKind.wrap .i64 (u52 + 1)))).take (cutLen u54.length (some (IntKind.wrap .i64 (u52 + 1))) none))),(u55,(u56,()))),(0:Int),()) else none else none else none
 else
 bif (decide (a1.1 = (8:Int))) then
 (f128_l47x y3.1 (0:Int) a1.1 a1.2.1.1 a1.2.1.2.1 a1.2.2.1.1 a1.2.2.1.2.1 a1.2.2.1.2.2.1 a1.2.2.1.2.2.2.1 a1.2.2.1.2.2.2.2.1 a1.2.2.1.2.2.2.2.2.1 a1.2.2.2.1 a1.2.2.2.2.1 a1.2.2.2.2.2.1 a1.2.2.2.2.2.2.1 a0.1 a0.2.1 a0.2.2.1 (((a1.2.2.2.2.2.1.length:Int) - (0:Int)).toNat + 1) (0:Int)).bind fun o61 =>
 Sum.elim (fun o62 =>
 let u64:Int:=o62.1.1
 let u65:Int:=o62.2.1.1.1
 let u66:Int:=o62.2.2.2.1.1
 let u67:Int:=o62.2.2.2.1.2.1
 let u68:Int:=o62.2.2.2.1.2.2.1
 let u69:Int:=o62.2.2.2.1.2.2.2.1
 let u70:Int:=o62.2.2.2.1.2.2.2.2.1
 let u71:Int:=o62.2.2.2.1.2.2.2.2.2.1
 let u72:Bool:=o62.2.2.2.1.2.2.2.2.2.2.1
 let u73:Int:=o62.2.2.2.1.2.2.2.2.2.2.2.1
 let u74:Int:=o62.2.2.2.1.2.2.2.2.2.2.2.2.1
 let u75:Int:=o62.2.2.2.1.2.2.2.2.2.2.2.2.2.1
 let u76:Int:=o62.2.2.2.1.2.2.2.2.2.2.2.2.2.2.1
 let u77:(List Int):=o62.2.2.2.1.2.2.2.2.2.2.2.2.2.2.2.1
 let u78:(List Int):=o62.2.2.2.1.2.2.2.2.2.2.2.2.2.2.2.2.1
 let u79:(List Vx):=o62.2.2.2.2.2.2.1
 let u80:(List Ed):=o62.2.2.2.2.2.2.2.1
 let u81:(List Int):=o62.2.2.2.2.2.2.2.2.1
 (f111 (u67,(u68,()))).bind fun y82 =>
 bif (!y82.1) then
 bif (decide (u64 < (0:Int))) then
 some (([],([],([],()))),(30:Int),())
 else
 some (([],([],([],()))),(30:Int),())
 else
 (f55 (u79,(u80,(u81,()))) u67).bind fun y83 =>
 bif (decide (y83.1 ≥ (0:Int))) then
 bif (decide (u64 < (0:Int))) then
 some (([],([],([],()))),(30:Int),())
 else
 some (([],([],([],()))),(30:Int),())
 else
 (f187_l4y u64 u65 u67 u68 u66 u67 u68 u69 u70 u71 u72 u73 u74 u75 u76 u77 u78 u79 u80 u81 (((u79.length:Int) - (0:Int)).toNat + 1) (0:Int)).bind fun o85 =>
 let u86:Int:=o85.1.1
 let u87:Int:=o85.2.1.1.1
 let u88:Int:=o85.2.1.2.1.1
 let u89:Int:=o85.2.2.2.1.1
 let u90:Int:=o85.2.2.2.1.2.1
 let u91:Int:=o85.2.2.2.2.2.2.1.1
 let u92:Int:=o85.2.2.2.2.2.2.1.2.1
 let u93:Int:=o85.2.2.2.2.2.2.1.2.2.1
 let u94:Int:=o85.2.2.2.2.2.2.1.2.2.2.1
 let u95:Int:=o85.2.2.2.2.2.2.1.2.2.2.2.1
 let u96:Int:=o85.2.2.2.2.2.2.1.2.2.2.2.2.1
 let u97:Bool:=o85.2.2.2.2.2.2.1.2.2.2.2.2.2.1
 let u98:Int:=o85.2.2.2.2.2.2.1.2.2.2.2.2.2.2.1
 let u99:Int:=o85.2.2.2.2.2.2.1.2.2.2.2.2.2.2.2.1
 let u100:Int:=o85.2.2.2.2.2.2.1.2.2.2.2.2.2.2.2.2.1
 let u101:Int:=o85.2.2.2.2.2.2.1.2.2.2.2.2.2.2.2.2.2.1
 let u102:(List Int):=o85.2.2.2.2.2.2.1.2.2.2.2.2.2.2.2.2.2.2.1
 let u103:(List Int):=o85.2.2.2.2.2.2.1.2.2.2.2.2.2.2.2.2.2.2.2.1
 let u104:(List Vx):=o85.2.2.2.2.2.2.2.2.2.1
 let u105:(List Ed):=o85.2.2.2.2.2.2.2.2.2.2.1
 let u106:(List Int):=o85.2.2.2.2.2.2.2.2.2.2.2.1
 bif (cutOk u104.length none (some u86) && decide (u86 = u86)) then
 bif (cutOk u104.length (some u86) none) then
 bif (decide (([(u89,(u90,()))]:List Vx).length + ((u104.drop (Int.toNat u86)).take (cutLen u104.length (some u86) none)).length≤appLim)) then
 bif (decide (((u104.drop 0).take (cutLen u104.length none (some u86))).length + (([(u89,(u90,()))]:List Vx)++((u104.drop (Int.toNat u86)).take (cutLen u104.length (some u86) none))).length≤appLim)) then
 bif (decide (u87 < (0:Int))) then
 some (([],([],([],()))),(30:Int),())
 else
 (f128_l55x u88 u91 u92 u93 u94 u95 u96 u97 u98 u99 u100 u101 u102 u103 (((u104.drop 0).take (cutLen u104.length none (some u86)))++(([(u89,(u90,()))]:List Vx)++((u104.drop (Int.toNat u86)).take (cutLen u104.length (some u86) none)))) u106 (((u102.length:Int) - (0:Int)).toNat + 1) (0:Int) u105).bind fun o111 =>
 let u113:(List Vx):=o111.2.2.2.2.2.1
 let u114:(List Ed):=o111.2.2.2.2.2.2.1
 let u115:(List Int):=o111.2.2.2.2.2.2.2.1
 some ((u113,(u114,(u115,()))),(0:Int),())
 else none
 else none
 else none
 else none) (fun o63 =>
 let u116:Bool:=o63.1.1
 let u118:(List Vx):=o63.2.2.2.2.1
 let u119:(List Ed):=o63.2.2.2.2.2.1
 let u120:(List Int):=o63.2.2.2.2.2.2.1
 bif (!u116) then
 some (([],([],([],()))),(30:Int),())
 else
 some ((u118,(u119,(u120,()))),(0:Int),())) o61
 else
 bif (decide (a1.1 = (9:Int))) then
 bif (decide (y3.1 < (0:Int))) then
 some (([],([],([],()))),(30:Int),())
 else
 (f171 a1.2.2.2.2.1 (0:Int) (3:Int)).bind fun y121 =>
 bif (!y121.1) then
 some (([],([],([],()))),(30:Int),())
 else
 bif (inR y3.1 a0.1.length) then some (((a0.1.set (Int.toNat y3.1) ((at_ tV a0.1 y3.1).1,(a1.2.2.2.2.1,()))),a0.2),(0:Int),()) else none
 else
 bif (decide (a1.2.2.2.2.2.2.1.length≤appLim)) then
 (f48 (a0.1,(a0.2.1,a1.2.2.2.2.2.2))).bind fun y122 =>
 bif (!y122.1) then
 some (([],([],([],()))),(30:Int),())
 else
 some ((a0.1,(a0.2.1,a1.2.2.2.2.2.2)),(0:Int),())
 else none
noncomputable def f83 (a0:Gr) (a1:(Int × (Vx × (Ed × (Int × (Int × ((List Int) × ((List Int) × Unit)))))))):Option (Gr × Int × Unit) :=
 (f48 a0).bind fun y1 =>
 bif (!y1.1) then
  some (([],([],([],()))),(30:Int),())
 else
  (f127 a1).bind fun y2 =>
  bif (!y2.1) then
   some (([],([],([],()))),(30:Int),())
  else
   (same (same (bif (decide (a0.1.length≤appLim)) then bif (decide (a0.2.1.length≤appLim)) then bif (decide (a0.2.2.1.length≤appLim)) then (same (same (f83_in a0 a1) (f83_in a0 a1)) (f83_in a0 a1)) else none else none else none) (same (same (bif (decide (a0.1.length≤appLim)) then bif (decide (a0.2.1.length≤appLim)) then bif (decide (a0.2.2.1.length≤appLim)) then (same (f83_in a0 a1) (f83_in a0 a1)) else none else none else none) (bif (decide (a0.1.length≤appLim)) then bif (decide (a0.2.1.length≤appLim)) then bif (decide (a0.2.2.1.length≤appLim)) then (f83_in a0 a1) else none else none else none)) (same (bif (decide (a0.1.length≤appLim)) then bif (decide (a0.2.1.length≤appLim)) then bif (decide (a0.2.2.1.length≤appLim)) then (f83_in a0 a1) else none else none else none) (bif (decide (a0.1.length≤appLim)) then bif (decide (a0.2.1.length≤appLim)) then bif (decide (a0.2.2.1.length≤appLim)) then (f83_in a0 a1) else none else none else none)))) (same (same (same (bif (decide (a0.1.length≤appLim)) then bif (decide (a0.2.1.length≤appLim)) then bif (decide (a0.2.2.1.length≤appLim)) then (same (f83_in a0 a1) (f83_in a0 a1)) else none else none else none) (bif (decide (a0.1.length≤appLim)) then bif (decide (a0.2.1.length≤appLim)) then bif (decide (a0.2.2.1.length≤appLim)) then (f83_in a0 a1) else none else none else none)) (bif (decide (a0.1.length≤appLim)) then bif (decide (a0.2.1.length≤appLim)) then bif (decide (a0.2.2.1.length≤appLim)) then (f83_in a0 a1) else none else none else none)) (same (same (bif (decide (a0.1.length≤appLim)) then bif (decide (a0.2.1.length≤appLim)) then bif (decide (a0.2.2.1.length≤appLim)) then (f83_in a0 a1) else none else none else none) (bif (decide (a0.1.length≤appLim)) then bif (decide (a0.2.1.length≤appLim)) then bif (decide (a0.2.2.1.length≤appLim)) then (f83_in a0 a1) else none else none else none)) (bif (decide (a0.1.length≤appLim)) then bif (decide (a0.2.1.length≤appLim)) then bif (decide (a0.2.2.1.length≤appLim)) then (f83_in a0 a1) else none else none else none))))
noncomputable def f83_spec:PSpec:={ args:=[tG,(.pair tI (.pair tV (.pair tE (.pair tI (.pair tI (.pair (.sl tI) (.pair (.sl tI) .unit)))))))],res:=[tG,tI],fn:=fun x=>f83 x.1 x.2.1 }
noncomputable def f83_code:Code:=Tryz.f83.body.getD .skip
noncomputable def f83_code_128:Code:=Tryz.f128.body.getD .skip
noncomputable def f83_code_187:Code:=Tryz.f187.body.getD .skip
noncomputable def f83_env:Env0:={ C:=cfg,P:=[(48,f48_spec),(50,f50_spec),(55,f55_spec),(57,f57_spec),(91,f91_spec),(111,f111_spec),(112,f112_spec),(127,f127_spec),(171,f171_spec),(188,f188_spec)],L:=[(⟨10,21033000,187,4⟩,f187_l4x_spec),(⟨11,21000,128,15⟩,f128_l15x_spec),(⟨11,21000,128,38⟩,f128_l38x_spec),(⟨11,21000,128,47⟩,f128_l47x_spec),(⟨10,21293000,187,4⟩,f187_l4y_spec),(⟨11,21000,128,55⟩,f128_l55x_spec)],F:=[(83,Tryz.f83),(128,Tryz.f128),(129,Tryz.f129),(187,Tryz.f187),(189,Tryz.f189)],I:=[],tot:=[(83,[3])] }
theorem f187_l4x_ok:LoopOK f83_env 10 187 21033000 (loopAt f83_code_187 4) f187_l4x_spec :=
 loopOK_of (by kernel_rfl) f187_l4x_n (fun x o h=>⟨_,h⟩) (fun x=>by kernel_rfl) (fun n x=>by kernel_rfl)
theorem f128_l15x_ok:LoopOK f83_env 11 128 21000 (loopAt f83_code_128 15) f128_l15x_spec :=
 loopOK_of (by kernel_rfl) f128_l15x_n (fun x o h=>⟨_,h⟩) (fun x=>by kernel_rfl) (fun n x=>by kernel_rfl)
theorem f128_l38x_ok:LoopOK f83_env 11 128 21000 (loopAt f83_code_128 38) f128_l38x_spec :=
 loopOK_of (by kernel_rfl) f128_l38x_n (fun x o h=>⟨_,h⟩) (fun x=>by kernel_rfl) (fun n x=>by kernel_rfl)
theorem f128_l47x_ok:LoopOK f83_env 11 128 21000 (loopAt f83_code_128 47) f128_l47x_spec :=
 loopOK_of (by kernel_rfl) f128_l47x_n (fun x o h=>⟨_,h⟩) (fun x=>by kernel_rfl) (fun n x=>by kernel_rfl)
theorem f187_l4y_ok:LoopOK f83_env 10 187 21293000 (loopAt f83_code_187 4) f187_l4y_spec :=
 loopOK_of (by kernel_rfl) f187_l4y_n (fun x o h=>⟨_,h⟩) (fun x=>by kernel_rfl) (fun n x=>by kernel_rfl)
theorem f128_l55x_ok:LoopOK f83_env 11 128 21000 (loopAt f83_code_128 55) f128_l55x_spec :=
 loopOK_of (by kernel_rfl) f128_l55x_n (fun x o h=>⟨_,h⟩) (fun x=>by kernel_rfl) (fun n x=>by kernel_rfl)
theorem f83_run (x:tysDen (f83_spec).args):runF f83_env 83 Tryz.f83 f83_code (f83_spec).args (f83_spec).res x = f83_spec.fn x:=by kernel_rfl
theorem f83_enter:Enterable Tryz.prog 83:=enter_fun Tryz.func83 (by kernel_rfl)
theorem f83_envOK:EnvOK Tryz.prog f83_env:=envOK_of cds (by kernel_rfl) cfg_ok ⟨⟨f48_pure,f48_enter⟩,⟨f50_pure,f50_enter⟩,⟨f55_pure,f55_enter⟩,⟨f57_pure,f57_enter⟩,⟨f91_pure,f91_enter⟩,⟨f111_pure,f111_enter⟩,⟨f112_pure,f112_enter⟩,⟨f127_pure,f127_enter⟩,⟨f171_pure,f171_enter⟩,⟨f188_pure,f188_enter⟩,trivial⟩ trivial ⟨⟨Tryz.func83,by kernel_rfl⟩,⟨Tryz.func128,by kernel_rfl⟩,⟨Tryz.func129,by kernel_rfl⟩,⟨Tryz.func187,by kernel_rfl⟩,⟨Tryz.func189,by kernel_rfl⟩,trivial⟩ ⟨⟨Tryz.f187,f83_code_187,rfl,rfl,f187_l4x_ok⟩,⟨Tryz.f128,f83_code_128,rfl,rfl,f128_l15x_ok⟩,⟨Tryz.f128,f83_code_128,rfl,rfl,f128_l38x_ok⟩,⟨Tryz.f128,f83_code_128,rfl,rfl,f128_l47x_ok⟩,⟨Tryz.f187,f83_code_187,rfl,rfl,f187_l4y_ok⟩,⟨Tryz.f128,f83_code_128,rfl,rfl,f128_l55x_ok⟩,trivial⟩ trivial trivial
theorem f83_pure:PureOK Tryz.prog cfg 83 f83_spec:=pure_of_run f83_envOK (fn:=Tryz.f83) (c:=f83_code) rfl rfl f83_spec (fun x _ h=>(f83_run x).trans h)
end Go.V.G
namespace Go.V.G
open Go.Proofs
def f37_l3_head:Ann:={ env:=[(1,.ty (.sl (.arr 6 tI))),(2,cP 2),(4,cP 4),(6,.cst (.row 39 .whole)),(7,TI)],bxs:=[(2,.var [.ty (.sl tV),.ty (.sl tE),.ty (.sl tI)]),(4,.var [.cst .nils,.cst .nils,.cst .nils]),(39,.row (.pair tI (.pair tV (.pair tE (.pair tI (.pair tI (.pair (.sl tI) (.pair (.sl tI) .unit))))))) false)] }
def f37_l3_outs:List (Ex × Ann):=[((.exit 0),{ env:=[(2,cP 2),(4,cP 4),(6,.cst (.row 39 .whole))],bxs:=[(2,.var [.ty (.sl tV),.ty (.sl tE),.ty (.sl tI)]),(4,.var [.cst .nils,.cst .nils,.cst .nils]),(39,.row (.pair tI (.pair tV (.pair tE (.pair tI (.pair tI (.pair (.sl tI) (.pair (.sl tI) .unit))))))) false)] })]
noncomputable def f37_l3 (t1:(List (List Int))):Nat→Int→(List Vx)→(List Ed)→(List Int)→(List (Int × (Vx × (Ed × (Int × (Int × ((List Int) × ((List Int) × Unit))))))))→Option (outDen f37_l3_outs)
 | 0,_,_,_,_,_=>none
 | k + 1,t7,b2g0,b2g1,b2g2,r39 =>
  bif (decide (t7 < (t1.length:Int))) then
   bif (decide (t7 < (12:Int))) then
    bif (inR t7 t1.length) then
     (f42 (b2g0,(b2g1,(b2g2,()))) (at_ (.arr 6 tI) t1 t7)).bind fun y1 =>
     (f83 (b2g0,(b2g1,(b2g2,()))) y1.1).bind fun y2 =>
     bif (decide (y2.2.1 = (0:Int))) then
      bif (decide (r39.length + ([y1.1]:List (Int × (Vx × (Ed × (Int × (Int × ((List Int) × ((List Int) × Unit)))))))).length≤appLim)) then f37_l3 t1 k (IntKind.wrap .i64 (t7 + 1)) y2.1.1 y2.1.2.1 y2.1.2.2.1 (r39++([y1.1]:List (Int × (Vx × (Ed × (Int × (Int × ((List Int) × ((List Int) × Unit))))))))) else none
     else
      f37_l3 t1 k (IntKind.wrap .i64 (t7 + 1)) b2g0 b2g1 b2g2 r39
    else none
   else
    some ((),(),((b2g0,b2g1,b2g2,()),(),r39,()))
  else
   some ((),(),((b2g0,b2g1,b2g2,()),(),r39,()))
noncomputable def f37_l3_spec:LSpec:={ thaws:=[.slot 6 39 (.pair tI (.pair tV (.pair tE (.pair tI (.pair tI (.pair (.sl tI) (.pair (.sl tI) .unit)))))))],head:=f37_l3_head,outs:=f37_l3_outs,fn:=fun x=>f37_l3 x.1.1 (((x.1.1.length:Int) - x.1.2.1).toNat + 1) x.1.2.1 x.2.2.1.1 x.2.2.1.2.1 x.2.2.1.2.2.1 x.2.2.2.2.1 }
noncomputable def f37 (a0:Gr) (a1:(List (List Int))):Option (Gr × (List (Int × (Vx × (Ed × (Int × (Int × ((List Int) × ((List Int) × Unit)))))))) × Unit) :=
 (f37_l3 a1 (((a1.length:Int) - (0:Int)).toNat + 1) (0:Int) a0.1 a0.2.1 a0.2.2.1 []).bind fun o3 =>
 let u4:(List Vx):=o3.2.2.1.1
 let u5:(List Ed):=o3.2.2.1.2.1
 let u6:(List Int):=o3.2.2.1.2.2.1
 let u7:(List (Int × (Vx × (Ed × (Int × (Int × ((List Int) × ((List Int) × Unit)))))))):=o3.2.2.2.2.1
 some ((u4,(u5,(u6,()))),u7,())
noncomputable def f37_spec:PSpec:={ args:=[tG,(.sl (.arr 6 tI))],res:=[tG,(.sl (.pair tI (.pair tV (.pair tE (.pair tI (.pair tI (.pair (.sl tI) (.pair (.sl tI) .unit))))))))],fn:=fun x=>f37 x.1 x.2.1 }
noncomputable def f37_code:Code:=Tryz.f37.body.getD .skip
noncomputable def f37_env:Env0:={ C:=cfg,P:=[(42,f42_spec),(83,f83_spec)],L:=[(⟨12,0,37,3⟩,f37_l3_spec)],F:=[(37,Tryz.f37)] }
theorem f37_l3_ok:LoopOK f37_env 12 37 0 (loopAt f37_code 3) f37_l3_spec :=
 loopOK_of (by kernel_rfl) (fun n x=>f37_l3 x.1.1 n x.1.2.1 x.2.2.1.1 x.2.2.1.2.1 x.2.2.1.2.2.1 x.2.2.2.2.1) (fun x o h=>⟨_,h⟩) (fun x=>by kernel_rfl) (fun n x=>by kernel_rfl)
theorem f37_run (x:tysDen (f37_spec).args):runF f37_env 37 Tryz.f37 f37_code (f37_spec).args (f37_spec).res x = f37_spec.fn x:=by kernel_rfl
theorem f37_enter:Enterable Tryz.prog 37:=enter_fun Tryz.func37 (by kernel_rfl)
theorem f37_envOK:EnvOK Tryz.prog f37_env:=envOK_of cds (by kernel_rfl) cfg_ok ⟨⟨f42_pure,f42_enter⟩,⟨f83_pure,f83_enter⟩,trivial⟩ trivial ⟨⟨Tryz.func37,by kernel_rfl⟩,trivial⟩ ⟨⟨Tryz.f37,f37_code,rfl,rfl,f37_l3_ok⟩,trivial⟩ trivial trivial
theorem f37_pure:PureOK Tryz.prog cfg 37 f37_spec:=pure_of_run f37_envOK (fn:=Tryz.f37) (c:=f37_code) rfl rfl f37_spec (fun x _ h=>(f37_run x).trans h)
end Go.V.G
namespace Go.V.G
open Go.Proofs
abbrev Ch:=Int × Vx × Ed × Int × Int × List Int × List Int × Unit
def Tot (o:Option (Bool × Unit)):Prop:=∃ b,o = some (b,())
theorem tot_some (b:Bool):Tot (some (b,())):=⟨b,rfl⟩
theorem tot_bif {c:Bool} {x y:Option (Bool × Unit)} (h1:Tot x) (h2:Tot y):Tot (bif c then x else y):=by cases c <;> assumption
theorem tot_bind {o:Option (Bool × Unit)} {f:Bool × Unit→Option (Bool × Unit)} (h:Tot o) (k:∀ b,Tot (f (b,()))):Tot (o.bind f):=by
 obtain ⟨b,rfl⟩:=h
 exact k b
theorem f186_tot (a b:Ch) (h1:a.2.2.2.2.2.1.length≤1099511627776) (h2:a.2.2.2.2.2.2.1.length≤1099511627776):Tot (f186 a b):=by
 have k1:Tot (f30 a.2.2.2.2.2.1 b.2.2.2.2.2.1):=⟨_,f30_eq _ _ h1⟩
 have k2:Tot (f30 a.2.2.2.2.2.2.1 b.2.2.2.2.2.2.1):=⟨_,f30_eq _ _ h2⟩
 unfold f186
 refine tot_bif ?_ (tot_some _)
 refine tot_bif ?_ (tot_some _)
 refine tot_bif ?_ (tot_some _)
 refine tot_bif ?_ (tot_some _)
 refine tot_bif ?_ (tot_some _)
 refine tot_bind k1 fun b=>?_
 refine tot_bif ?_ (tot_some _)
 exact tot_bind k2 fun b=>tot_some _
theorem f127_tot (a:Ch) (h1:a.2.2.2.2.2.1.length≤1099511627776) (h2:a.2.2.2.2.2.2.1.length≤1099511627776):Tot (f127 a):=by
 unfold f127
 repeat' first
  | exact tot_some _
  | exact tot_bind (f186_tot a _ h1 h2) fun _=>tot_some _
  | refine tot_bif ?_ ?_
def AppOut (o:Option (Gr × Int × Unit)):Prop:=∃ g e,o = some (g,e,())∧(e = 0→valid g = true)
theorem app_no:AppOut (some (([],[],[],()),30,())):=⟨_,_,rfl,fun h=>by cases h⟩
theorem app_yes {vs:List Vx} {es:List Ed} {ds:List Int} {u:Unit} (h:Ok vs es ds):AppOut (some ((vs,es,ds,u),0,())):=⟨_,_,rfl,fun _=>valid_ok h⟩
theorem app_bind {α:Type} {o:Option α} {v:α} {f:α→Option (Gr × Int × Unit)} (h:o = some v) (k:AppOut (f v)):AppOut (o.bind f):=by
 rw [h]; exact k
theorem app_bif {c:Bool} {x y:Option (Gr × Int × Unit)} (h1:c = true→AppOut x) (h2:c = false→AppOut y):AppOut (bif c then x else y):=by
 cases c with
 | true=>exact h1 rfl
 | false=>exact h2 rfl
theorem app_t {c:Bool} {x y:Option (Gr × Int × Unit)} (h:c = true) (k:AppOut x):AppOut (bif c then x else y):=by rw [h]; exact k
theorem app_f {c:Bool} {x y:Option (Gr × Int × Unit)} (h:c = false) (k:AppOut y):AppOut (bif c then x else y):=by rw [h]; exact k
section
variable {R:Type}
theorem place_loop (T:Ty) (f:T.den→Int) (n:Int) (F:Nat→Int→Option R) (fin:Nat→R) (l:List T.den)
  (hF:∀ k (j:Nat),j≤l.length→F (k + 1) (j:Int) = if h:j < l.length then (if f l[j] < n then F k ((j + 1:Nat):Int) else some (fin j)) else some (fin j)) :
  ∀ (m k j:Nat),l.length - j≤m→m < k→j≤l.length→(∀ i (h:i < l.length),i < j→f l[i] < n) →
   ∃ i,i≤l.length∧F k (j:Int) = some (fin i)∧(∀ q (h:q < l.length),q < i→f l[q] < n)∧(∀ h:i < l.length,n≤f l[i]):=by
 intro m
 induction m with
 | zero =>
  intro k j h1 h2 h3 h4
  obtain ⟨k,rfl⟩:∃ q,k = q + 1:=⟨k - 1,by omega⟩
  exact ⟨j,h3,by rw [hF k j h3,dif_neg (by omega)],h4,fun h=>by omega⟩
 | succ m ih =>
  intro k j h1 h2 h3 h4
  obtain ⟨k,rfl⟩:∃ q,k = q + 1:=⟨k - 1,by omega⟩
  by_cases h:j < l.length
  ·by_cases c:f l[j] < n
   ·obtain ⟨i,q1,q2,q3,q4⟩:=ih k (j + 1) (by omega) (by omega) (by omega) (fun i hi hij=>by
     by_cases e:i = j
     ·subst e; exact c
     ·exact h4 i hi (by omega))
    exact ⟨i,q1,by rw [hF k j h3,dif_pos h,if_pos c]; exact q2,q3,q4⟩
   ·exact ⟨j,h3,by rw [hF k j h3,dif_pos h,if_neg c],h4,fun _=>by omega⟩
  ·exact ⟨j,h3,by rw [hF k j h3,dif_neg h],h4,fun h'=>by omega⟩
end
theorem cutA {α:Type} (l:List α) (i:Nat):(l.drop 0).take (cutLen l.length none (some (i:Int))) = l.take i:=by rw [cutLenHi,List.drop_zero]
theorem cutB {α:Type} (l:List α) (i:Nat):(l.drop (Int.toNat (i:Int))).take (cutLen l.length (some (i:Int)) none) = l.drop i:=by
 rw [cutLenLo,Int.toNat_natCast,List.take_of_length_le (by simp)]
theorem appLe (n:Nat) (h:n≤1000000):decide (n≤appLim) = true:=dT (by unfold appLim; omega)
theorem ins_prog {α:Type} (l:List α) (a:α) (i:Nat) (hi:i≤l.length) (hl:l.length≤1000) {K:List α→Option (Gr × Int × Unit)} (h:AppOut (K (l.take i++([a]++l.drop i)))) :
  AppOut (bif (cutOk l.length none (some (i:Int)) && decide ((i:Int) = (i:Int))) then bif (cutOk l.length (some (i:Int)) none) then
   bif (decide (([a]:List α).length + ((l.drop (Int.toNat (i:Int))).take (cutLen l.length (some (i:Int)) none)).length≤appLim)) then
   bif (decide (((l.drop 0).take (cutLen l.length none (some (i:Int)))).length + (([a]:List α)++((l.drop (Int.toNat (i:Int))).take (cutLen l.length (some (i:Int)) none))).length≤appLim)) then
   K (((l.drop 0).take (cutLen l.length none (some (i:Int))))++(([a]:List α)++((l.drop (Int.toNat (i:Int))).take (cutLen l.length (some (i:Int)) none)))) else none else none else none else none):=by
 rw [cutA,cutB]
 refine app_t (by rw [cutHi' _ _ hi]; simp) (app_t (cutLo _ _ hi) (app_t (appLe _ ?_) (app_t (appLe _ ?_) h)))
 ·simp only [List.length_drop,List.length_cons,List.length_nil]; omega
 ·simp only [List.length_append,List.length_take,List.length_drop,List.length_cons,List.length_nil]; omega
theorem del_prog {α:Type} (l:List α) (i:Nat) (hi:i < l.length) (hl:l.length≤1000) {K:List α→Option (Gr × Int × Unit)} (h:AppOut (K (l.take i++l.drop (i + 1)))) :
  AppOut (bif (cutOk l.length none (some (i:Int)) && decide ((i:Int) = (i:Int))) then bif (cutOk l.length (some (IntKind.wrap .i64 ((i:Int) + (1:Int)))) none) then
   bif (decide (((l.drop 0).take (cutLen l.length none (some (i:Int)))).length + ((l.drop (Int.toNat (IntKind.wrap .i64 ((i:Int) + (1:Int))))).take (cutLen l.length (some (IntKind.wrap .i64 ((i:Int) + (1:Int)))) none)).length≤appLim)) then
   K (((l.drop 0).take (cutLen l.length none (some (i:Int))))++((l.drop (Int.toNat (IntKind.wrap .i64 ((i:Int) + (1:Int))))).take (cutLen l.length (some (IntKind.wrap .i64 ((i:Int) + (1:Int)))) none))) else none else none else none):=by
 rw [wS i (by omega),cutA,cutB]
 refine app_t (by rw [cutHi' _ _ (by omega)]; simp) (app_t (cutLo _ _ (by omega)) (app_t (appLe _ ?_) h))
 simp only [List.length_take,List.length_drop]; omega
end Go.V.G
namespace Go.V.G
open Go.Proofs
theorem f57_at (vs:List Vx) (es:List Ed) (ds:List Int) (id:Int) (hl:es.length≤100000) :
  ((∀ e∈es,e.1 ≠ id)∧f57 (vs,es,ds,()) id = some (-1,())) ∨ ∃ (i:Nat) (h:i < es.length),es[i].1 = id∧f57 (vs,es,ds,()) id = some ((i:Int),()):=by
 have key:=find_loop2 tE (fun v:Ed=>!decide (v.1 = id)) (fun k j=>f57_l2 id vs es ds k j) (.inl ((),(),())) (fun i=>.inr (((i:Int),()),(),())) es (by
  intro k j
  show f57_l2 id vs es ds (k + 1) (j:Int) = _
  conv=>lhs; unfold f57_l2
  by_cases hj:j < es.length
  ·have hget:at_ tE es (j:Int) = es[j]:=atN tE es j hj
   rw [dT (by omega),dif_pos hj]
   simp only [cond_true,inRN,dT hj,hget,wS j (by omega)]
   by_cases c:es[j].1 = id
   ·rw [dT c]; rfl
   ·rw [dF c]; rfl
  ·rw [dF (by omega),dif_neg hj]; rfl) es.length (((es.length:Int) - (0:Int)).toNat + 1) 0 (by omega) (by omega)
 rw [List.drop_zero] at key
 unfold f57
 rcases key with ⟨k1,k2⟩ | ⟨k0,i,hi,_,k1,k3⟩
 ·refine .inl ⟨fun e he=>?_,bind_step k2 rfl⟩
  have:=List.all_eq_true.1 k1 e he
  simpa using this
 ·exact .inr ⟨i,hi,by simpa using k1,bind_step k3 rfl⟩
theorem f188_at (ds:List Int) (id:Int) (hl:ds.length≤100000):∃ b,f188 ds id = some (b,())∧(b = false→∀ d∈ds,d ≠ id):=by
 have key:=find_loop2 tI (fun v:Int=>!decide (v = id)) (fun k j=>f188_l2 ds id k j) (.inl ((),(),())) (fun i=>.inr ((true,()),(),())) ds (by
  intro k j
  show f188_l2 ds id (k + 1) (j:Int) = _
  conv=>lhs; unfold f188_l2
  by_cases hj:j < ds.length
  ·have hget:at_ tI ds (j:Int) = ds[j]:=atN tI ds j hj
   rw [dT (by omega),dif_pos hj]
   simp only [cond_true,inRN,dT hj,hget,wS j (by omega)]
   by_cases c:ds[j] = id
   ·rw [dT c]; rfl
   ·rw [dF c]; rfl
  ·rw [dF (by omega),dif_neg hj]; rfl) ds.length (((ds.length:Int) - (0:Int)).toNat + 1) 0 (by omega) (by omega)
 rw [List.drop_zero] at key
 unfold f188
 rcases key with ⟨k1,k2⟩ | ⟨k0,i,hi,_,k1,k3⟩
 ·refine ⟨false,bind_step k2 rfl,fun _ e he=>?_⟩
  have:=List.all_eq_true.1 k1 e he
  simpa using this
 ·exact ⟨true,bind_step k3 rfl,fun h=>by cases h⟩
theorem l4_a (k0:Bool) (k1 g0 g1:Int) (vs:List Vx) (es:List Ed) (ds:List Int) (hl:vs.length≤100000) :
  ∃ i:Nat,i≤vs.length∧f187_l4x k0 k1 g0 g1 vs es ds (((vs.length:Int) - (0:Int)).toNat + 1) (0:Int) = some (((i:Int),()),((k0,()),(k1,()),()),((),(g0,g1,()),(),(),(),vs,es,ds,())) ∧
   (∀ q (h:q < vs.length),q < i→kV vs[q] < g0)∧(∀ h:i < vs.length,g0≤kV vs[i]):=by
 refine place_loop tV kV g0 (fun k j=>f187_l4x k0 k1 g0 g1 vs es ds k j) (fun i=>(((i:Int),()),((k0,()),(k1,()),()),((),(g0,g1,()),(),(),(),vs,es,ds,()))) vs ?_ vs.length _ 0 (by omega) (by omega) (by omega) (fun i h h'=>by omega)
 intro k j hj0
 show f187_l4x k0 k1 g0 g1 vs es ds (k + 1) (j:Int) = _
 conv=>lhs; unfold f187_l4x
 by_cases hj:j < vs.length
 ·have hget:at_ tV vs (j:Int) = vs[j]:=atN tV vs j hj
  rw [dT (by omega),dif_pos hj]
  simp only [cond_true,inRN,dT hj,hget,wS j (by omega)]
  by_cases c:vs[j].1 < g0
  ·rw [dT c,if_pos c]; rfl
  ·rw [dF c,if_neg c]; rfl
 ·rw [dF (by omega),dif_neg hj]; rfl
theorem l4_b (k0 k1 g0 g1 c0 c1 c2 c3 c4 c5:Int) (c6:Bool) (c7 c8 c9 c10:Int) (c11 c12:List Int) (vs:List Vx) (es:List Ed) (ds:List Int) (hl:vs.length≤100000) :
  ∃ i:Nat,i≤vs.length∧f187_l4y k0 k1 g0 g1 c0 c1 c2 c3 c4 c5 c6 c7 c8 c9 c10 c11 c12 vs es ds (((vs.length:Int) - (0:Int)).toNat + 1) (0:Int) = some (((i:Int),()),((k0,()),(k1,()),()),((),(g0,g1,()),(),(),(c0,c1,c2,c3,c4,c5,c6,c7,c8,c9,c10,c11,c12,()),(),(),vs,es,ds,())) ∧
   (∀ q (h:q < vs.length),q < i→kV vs[q] < g0)∧(∀ h:i < vs.length,g0≤kV vs[i]):=by
 refine place_loop tV kV g0 (fun k j=>f187_l4y k0 k1 g0 g1 c0 c1 c2 c3 c4 c5 c6 c7 c8 c9 c10 c11 c12 vs es ds k j) (fun i=>(((i:Int),()),((k0,()),(k1,()),()),((),(g0,g1,()),(),(),(c0,c1,c2,c3,c4,c5,c6,c7,c8,c9,c10,c11,c12,()),(),(),vs,es,ds,()))) vs ?_ vs.length _ 0 (by omega) (by omega) (by omega) (fun i h h'=>by omega)
 intro k j hj0
 show f187_l4y k0 k1 g0 g1 c0 c1 c2 c3 c4 c5 c6 c7 c8 c9 c10 c11 c12 vs es ds (k + 1) (j:Int) = _
 conv=>lhs; unfold f187_l4y
 by_cases hj:j < vs.length
 ·have hget:at_ tV vs (j:Int) = vs[j]:=atN tV vs j hj
  rw [dT (by omega),dif_pos hj]
  simp only [cond_true,inRN,dT hj,hget,wS j (by omega)]
  by_cases c:vs[j].1 < g0
  ·rw [dT c,if_pos c]; rfl
  ·rw [dF c,if_neg c]; rfl
 ·rw [dF (by omega),dif_neg hj]; rfl
theorem l15 (k0 c0 c1 c2 c3 c4 c5:Int) (c6:Bool) (c7 c8 c9 c10:Int) (c11 c12:List Int) (vs:List Vx) (es:List Ed) (ds:List Int) (hl:es.length≤100000) :
  ∃ i:Nat,i≤es.length∧f128_l15x k0 c0 c1 c2 c3 c4 c5 c6 c7 c8 c9 c10 c11 c12 vs es ds (((es.length:Int) - (0:Int)).toNat + 1) (0:Int) = some (((i:Int),()),((k0,()),()),((),(c0,c1,c2,c3,c4,c5,c6,c7,c8,c9,c10,c11,c12,()),(),(),vs,es,ds,())) ∧
   (∀ q (h:q < es.length),q < i→kE es[q] < c3)∧(∀ h:i < es.length,c3≤kE es[i]):=by
 refine place_loop tE kE c3 (fun k j=>f128_l15x k0 c0 c1 c2 c3 c4 c5 c6 c7 c8 c9 c10 c11 c12 vs es ds k j) (fun i=>(((i:Int),()),((k0,()),()),((),(c0,c1,c2,c3,c4,c5,c6,c7,c8,c9,c10,c11,c12,()),(),(),vs,es,ds,()))) es ?_ es.length _ 0 (by omega) (by omega) (by omega) (fun i h h'=>by omega)
 intro k j hj0
 show f128_l15x k0 c0 c1 c2 c3 c4 c5 c6 c7 c8 c9 c10 c11 c12 vs es ds (k + 1) (j:Int) = _
 conv=>lhs; unfold f128_l15x
 by_cases hj:j < es.length
 ·have hget:at_ tE es (j:Int) = es[j]:=atN tE es j hj
  rw [dT (by omega),dif_pos hj]
  simp only [cond_true,inRN,dT hj,hget,wS j (by omega)]
  by_cases c:es[j].1 < c3
  ·rw [dT c,if_pos c]; rfl
  ·rw [dF c,if_neg c]; rfl
 ·rw [dF (by omega),dif_neg hj]; rfl
section
variable {R:Type}
theorem map_loop {A:Type} (g:A→A) (F:Nat→Int→List A→Option R) (fin:List A→R) (n:Nat)
  (hF:∀ k (j:Nat) (l:List A),l.length = n→F (k + 1) (j:Int) l = if h:j < l.length then F k ((j + 1:Nat):Int) (l.set j (g l[j])) else some (fin l)) :
  ∀ (m k j:Nat) (l:List A),l.length = n→l.length - j≤m→m < k→F k (j:Int) l = some (fin (l.take j++(l.drop j).map g)):=by
 intro m
 induction m with
 | zero =>
  intro k j l hn h1 h2
  obtain ⟨k,rfl⟩:∃ q,k = q + 1:=⟨k - 1,by omega⟩
  rw [hF k j l hn,dif_neg (by omega),List.drop_of_length_le (by omega),List.take_of_length_le (by omega)]
  simp
 | succ m ih =>
  intro k j l hn h1 h2
  obtain ⟨k,rfl⟩:∃ q,k = q + 1:=⟨k - 1,by omega⟩
  rw [hF k j l hn]
  by_cases h:j < l.length
  ·rw [dif_pos h,ih k (j + 1) (l.set j (g l[j])) (by simpa using hn) (by simp; omega) (by omega)]
   congr 2
   rw [List.drop_set_of_lt (by omega),List.drop_eq_getElem_cons h,List.map_cons,List.take_succ_eq_append_getElem (by simpa using h),List.take_set_of_le (Nat.le_refl _)]
   simp
  ·rw [dif_neg h,List.drop_of_length_le (by omega),List.take_of_length_le (by omega)]
   simp
end
def ren (a b:Int) (e:Ed):Ed:=(e.1,(if e.2.1 = a then b else e.2.1),(if e.2.2.1 = a then b else e.2.2.1),e.2.2.2)
theorem l38 (t6 k0 c0 c1 c2 c3 c4 c5:Int) (c6:Bool) (c7 c8 c9 c10:Int) (c11 c12:List Int) (vs:List Vx) (es:List Ed) (ds:List Int) (hl:es.length≤100000) :
  f128_l38x t6 k0 c0 c1 c2 c3 c4 c5 c6 c7 c8 c9 c10 c11 c12 vs ds (((es.length:Int) - (0:Int)).toNat + 1) (0:Int) es = some ((t6,()),((k0,()),()),((),(),(),vs,es.map (ren c9 c10),ds,())):=by
 have key:=map_loop (ren c9 c10) (fun k j l=>f128_l38x t6 k0 c0 c1 c2 c3 c4 c5 c6 c7 c8 c9 c10 c11 c12 vs ds k j l) (fun l=>((t6,()),((k0,()),()),((),(),(),vs,l,ds,()))) es.length (by
  intro k j l hn
  show f128_l38x t6 k0 c0 c1 c2 c3 c4 c5 c6 c7 c8 c9 c10 c11 c12 vs ds (k + 1) (j:Int) l = _
  conv=>lhs; unfold f128_l38x
  by_cases hj:j < l.length
  ·have hget:at_ tE l (j:Int) = l[j]:=atN tE l j hj
   have hget2:∀ x:Ed,at_ tE (l.set j x) (j:Int) = x:=fun x=>by
    have:=atN tE (l.set j x) j (by simpa using hj)
    rw [List.getElem_set_self] at this
    exact this
   rw [dT (by omega),dif_pos hj]
   simp only [cond_true,Int.toNat_natCast,List.length_set,inRN,dT hj,hget,hget2,List.set_set,wS j (by omega)]
   unfold ren
   by_cases d1:l[j].2.1 = c9
   ·by_cases d2:l[j].2.2.1 = c9
    ·simp only [dT d1,dT d2,cond_true,if_pos d1,if_pos d2]
    ·simp only [dT d1,dF d2,cond_true,cond_false,if_pos d1,if_neg d2]
   ·by_cases d2:l[j].2.2.1 = c9
    ·simp only [dF d1,dT d2,cond_true,cond_false,if_neg d1,if_pos d2]
    ·simp only [dF d1,dF d2,cond_false,if_neg d1,if_neg d2]
     have:l.set j (l[j].1,l[j].2.1,l[j].2.2.1,l[j].2.2.2) = l:=List.set_getElem_self hj
     rw [this]
  ·rw [dF (by omega),dif_neg hj]; rfl) es.length (((es.length:Int) - (0:Int)).toNat + 1) 0 es rfl (by omega) (by omega)
 rw [List.take_zero,List.drop_zero,List.nil_append] at key
 exact key
end Go.V.G
namespace Go.V.G
open Go.Proofs
theorem ren_ok {vs es ds} (h:Ok vs es ds) (a b:Int) (hb:hasV vs b = true):Ok vs (es.map (ren a b)) ds:=by
 have hb2:0≤b∧b≤23:=by
  obtain ⟨v,hv,rfl⟩:=hasV_iff.1 hb
  have:=h.okv v hv
  exact ⟨this.1,this.2.1⟩
 refine h.map_e ?_ fun e he=>?_
 ·rw [List.map_map]; rfl
 ·obtain ⟨e0,he0,rfl⟩:=List.mem_map.1 he
  have h1:=h.oke e0 he0
  have h2:=h.hs e0 he0
  have h3:=h.ht e0 he0
  unfold okE at h1 ⊢
  simp only [Bool.and_eq_true,decide_eq_true_eq] at h1 ⊢
  unfold ren
  refine ⟨?_,?_,?_⟩
  ·simp only
   split <;> split <;> omega
  ·simp only
   split
   ·exact hb
   ·exact h2
  ·simp only
   split
   ·exact hb
   ·exact h3
theorem ren_ne (a b:Int) (hab:a ≠ b) (e:Ed):(ren a b e).2.1 ≠ a∧(ren a b e).2.2.1 ≠ a:=by
 unfold ren
 simp only
 refine ⟨?_,?_⟩ <;> split <;> omega
theorem f91_at (vs:List Vx) (es:List Ed) (ds:List Int) (x:Int) (hl:es.length≤100000):∃ n,f91 (vs,es,ds,()) x = some (n,())∧(0≤n→∃ i,∃ _:i < es.length,es[i].1 = IntKind.wrap .i64 (Int.tdiv x 2)):=by
 unfold f91
 by_cases c:x < 0
 ·exact ⟨-1,by rw [dT c]; rfl,fun h=>by omega⟩
 ·rw [dF c,cond_false]
  rcases f57_at vs es ds (IntKind.wrap .i64 (Int.tdiv x 2)) hl with ⟨_,k⟩ | ⟨i,hi,e,k⟩
  ·exact ⟨-1,bind_step k rfl,fun h=>by omega⟩
  ·have main:∀ n,(bif decide ((i:Int) < 0) then some ((-1:Int),()) else bif decide (Int.tmod x 2 = 0) then (bif inR (i:Int) es.length then some ((at_ tE es (i:Int)).2.1,()) else none) else (bif inR (i:Int) es.length then some ((at_ tE es (i:Int)).2.2.1,()) else none)) = some (n,()) →
     ∃ n,((f57 (vs,es,ds,()) (IntKind.wrap .i64 (Int.tdiv x 2))).bind fun y2=>(bif decide (y2.1 < 0) then some ((-1:Int),()) else bif decide (Int.tmod x 2 = 0) then (bif inR y2.1 es.length then some ((at_ tE es y2.1).2.1,()) else none) else (bif inR y2.1 es.length then some ((at_ tE es y2.1).2.2.1,()) else none))) = some (n,())∧(0≤n→∃ i,∃ _:i < es.length,es[i].1 = IntKind.wrap .i64 (Int.tdiv x 2)):=fun n hn=>⟨n,by rw [k]; exact hn,fun _=>⟨i,hi,e⟩⟩
   by_cases d:Int.tmod x 2 = 0
   ·refine main (at_ tE es (i:Int)).2.1 ?_
    rw [dF (by omega),dT d,inRN,dT hi]
    rfl
   ·refine main (at_ tE es (i:Int)).2.2.1 ?_
    rw [dF (by omega),dF d,inRN,dT hi]
    rfl
theorem l47 (t6 k0 c0 c1 c2 c3 c4 c5:Int) (c6:Bool) (c7 c8 c9 c10:Int) (c11 c12:List Int) (vs:List Vx) (es:List Ed) (ds:List Int) (hl:es.length≤100000) (hc:c11.length≤100000) :
  ∀ (m k j:Nat),c11.length - j≤m→m < k→f128_l47x t6 k0 c0 c1 c2 c3 c4 c5 c6 c7 c8 c9 c10 c11 c12 vs es ds k (j:Int) = some (.inr ((false,()),((k0,()),()),((),(),vs,es,ds,()))) ∨
   (f128_l47x t6 k0 c0 c1 c2 c3 c4 c5 c6 c7 c8 c9 c10 c11 c12 vs es ds k (j:Int) = some (.inl ((t6,()),((k0,()),()),((),(c0,c1,c2,c3,c4,c5,c6,c7,c8,c9,c10,c11,c12,()),(),(),vs,es,ds,())))∧∀ x∈c11.drop j,f91 (vs,es,ds,()) x = some (c9,())):=by
 intro m
 induction m with
 | zero =>
  intro k j h1 h2
  obtain ⟨k,rfl⟩:∃ q,k = q + 1:=⟨k - 1,by omega⟩
  right
  refine ⟨?_,fun x hx=>by rw [List.drop_of_length_le (by omega)] at hx; cases hx⟩
  unfold f128_l47x
  rw [dF (by omega)]
  rfl
 | succ m ih =>
  intro k j h1 h2
  obtain ⟨k,rfl⟩:∃ q,k = q + 1:=⟨k - 1,by omega⟩
  by_cases hj:j < c11.length
  ·have hget:at_ tI c11 (j:Int) = c11[j]:=atN tI c11 j hj
   obtain ⟨n,n1,n2⟩:=f91_at vs es ds c11[j] hl
   have ih':=ih k (j + 1) (by omega) (by omega)
   unfold f128_l47x
   by_cases c:n = c9
   ·subst c
    have go:∀ y:Option (outDen f128_l47x_outs),(y = some (.inr ((false,()),((k0,()),()),((),(),vs,es,ds,()))) ∨ (y = some (.inl ((t6,()),((k0,()),()),((),(c0,c1,c2,c3,c4,c5,c6,c7,c8,n,c10,c11,c12,()),(),(),vs,es,ds,())))∧∀ x∈c11.drop (j + 1),f91 (vs,es,ds,()) x = some (n,()))) →
      (y = some (.inr ((false,()),((k0,()),()),((),(),vs,es,ds,()))) ∨ (y = some (.inl ((t6,()),((k0,()),()),((),(c0,c1,c2,c3,c4,c5,c6,c7,c8,n,c10,c11,c12,()),(),(),vs,es,ds,())))∧∀ x∈c11.drop j,f91 (vs,es,ds,()) x = some (n,()))):=by
     rintro y (hy | ⟨hy,hz⟩)
     ·exact .inl hy
     ·refine .inr ⟨hy,fun x hx=>?_⟩
      rw [List.drop_eq_getElem_cons hj] at hx
      rcases List.mem_cons.1 hx with rfl | hx
      ·exact n1
      ·exact hz x hx
    by_cases z:0 < j
    ·have hget2:at_ tI c11 ((j - 1:Nat):Int) = c11[j - 1]:=atN tI c11 (j - 1) (by omega)
     have w1:IntKind.wrap .i64 ((j:Int) - (1:Int)) = ((j - 1:Nat):Int):=pred_wrap j (by omega) (by omega)
     by_cases o:c11[j]≤c11[j - 1]
     ·left
      simp only [dT (show (j:Int) < (c11.length:Int) by omega),cond_true,inRN,dT hj,hget,n1,Option.bind_some,ne_eq,not_true_eq_false,decide_false,cond_false,dT (show (j:Int) > 0 by omega),w1,dT (show j - 1 < c11.length by omega),hget2,dT o]
     ·apply go
      simp only [dT (show (j:Int) < (c11.length:Int) by omega),cond_true,inRN,dT hj,hget,n1,Option.bind_some,ne_eq,not_true_eq_false,decide_false,cond_false,dT (show (j:Int) > 0 by omega),w1,dT (show j - 1 < c11.length by omega),hget2,dF o,wS j (by omega)]
      exact ih'
    ·apply go
     simp only [dT (show (j:Int) < (c11.length:Int) by omega),cond_true,inRN,dT hj,hget,n1,Option.bind_some,ne_eq,not_true_eq_false,decide_false,cond_false,dF (show ¬ (j:Int) > 0 by omega),wS j (by omega)]
     exact ih'
   ·left
    simp only [dT (show (j:Int) < (c11.length:Int) by omega),cond_true,inRN,dT hj,hget,n1,Option.bind_some,ne_eq,dT c]
  ·right
   refine ⟨?_,fun x hx=>by rw [List.drop_of_length_le (by omega)] at hx; cases hx⟩
   unfold f128_l47x
   rw [dF (by omega)]
   rfl
theorem l55 (k0 c0 c1 c2 c3 c4 c5:Int) (c6:Bool) (c7 c8 c9 c10:Int) (c11 c12:List Int) (vs:List Vx) (ds:List Int) (hc:c11.length≤100000) (hv:hasV vs c1 = true) :
  ∀ (m k j:Nat) (es:List Ed),Ok vs es ds→(∀ x∈c11,∃ i,∃ _:i < es.length,es[i].1 = IntKind.wrap .i64 (Int.tdiv x 2))→c11.length - j≤m→m < k →
   ∃ es',f128_l55x k0 c0 c1 c2 c3 c4 c5 c6 c7 c8 c9 c10 c11 c12 vs ds k (j:Int) es = some ((),((k0,()),()),((),(),(),vs,es',ds,()))∧Ok vs es' ds:=by
 intro m
 induction m with
 | zero =>
  intro k j es hok hx h1 h2
  obtain ⟨k,rfl⟩:∃ q,k = q + 1:=⟨k - 1,by omega⟩
  refine ⟨es,?_,hok⟩
  unfold f128_l55x
  rw [dF (by omega)]
  rfl
 | succ m ih =>
  intro k j es hok hx h1 h2
  obtain ⟨k,rfl⟩:∃ q,k = q + 1:=⟨k - 1,by omega⟩
  by_cases hj:j < c11.length
  ·have hget:at_ tI c11 (j:Int) = c11[j]:=atN tI c11 j hj
   have hne:=hok.ne
   have hb2:0≤c1∧c1≤23:=by
    obtain ⟨v,hv0,e0⟩:=hasV_iff.1 hv
    have:=hok.okv v hv0
    rw [← e0]
    exact ⟨this.1,this.2.1⟩
   rcases f57_at vs es ds (IntKind.wrap .i64 (Int.tdiv c11[j] 2)) (by omega) with ⟨kn,_⟩ | ⟨i,hi,e,k1⟩
   ·exfalso
    obtain ⟨i,hi,e⟩:=hx c11[j] (List.getElem_mem hj)
    exact kn es[i] (List.getElem_mem hi) e
   ·have hgt:at_ tE es (i:Int) = es[i]:=atN tE es i hi
    have he:=hok.oke es[i] (List.getElem_mem hi)
    have hs:=hok.hs es[i] (List.getElem_mem hi)
    have ht:=hok.ht es[i] (List.getElem_mem hi)
    have keep:∀ x:Ed,x.1 = es[i].1→∀ y∈c11,∃ q,∃ _:q < (es.set i x).length,(es.set i x)[q].1 = IntKind.wrap .i64 (Int.tdiv y 2):=fun x hx1 y hy=>by
     obtain ⟨q,hq,e⟩:=hx y hy
     refine ⟨q,by simpa using hq,?_⟩
     rw [List.getElem_set]
     split
     ·rename_i eq; subst eq; rw [hx1]; exact e
     ·exact e
    by_cases d:Int.tmod c11[j] 2 = 0
    ·have ok1:okE (es[i].1,c1,es[i].2.2) = true:=by
      unfold okE at he ⊢
      simp only [Bool.and_eq_true,decide_eq_true_eq] at he ⊢
      omega
     obtain ⟨es',q1,q2⟩:=ih k (j + 1) (es.set i (es[i].1,c1,es[i].2.2)) (hok.set_e i hi _ rfl ok1 hv ht) (keep _ rfl) (by omega) (by omega)
     refine ⟨es',?_,q2⟩
     unfold f128_l55x
     simp only [dT (show (j:Int) < (c11.length:Int) by omega),cond_true,inRN,dT hj,hget,k1,Option.bind_some,dT d,dT hi,Int.toNat_natCast,hgt,wS j (by omega)]
     exact q1
    ·have ok1:okE (es[i].1,es[i].2.1,c1,es[i].2.2.2) = true:=by
      unfold okE at he ⊢
      simp only [Bool.and_eq_true,decide_eq_true_eq] at he ⊢
      omega
     obtain ⟨es',q1,q2⟩:=ih k (j + 1) (es.set i (es[i].1,es[i].2.1,c1,es[i].2.2.2)) (hok.set_e i hi _ rfl ok1 hs hv) (keep _ rfl) (by omega) (by omega)
     refine ⟨es',?_,q2⟩
     unfold f128_l55x
     simp only [dT (show (j:Int) < (c11.length:Int) by omega),cond_true,inRN,dT hj,hget,k1,Option.bind_some,dF d,cond_false,dT hi,Int.toNat_natCast,hgt,wS j (by omega)]
     exact q1
  ·refine ⟨es,?_,hok⟩
   unfold f128_l55x
   rw [dF (by omega)]
   rfl
end Go.V.G
namespace Go.V.G
open Go.Proofs
theorem f55_pl (vs:List Vx) (es:List Ed) (ds:List Int) (id:Int) (hl:vs.length≤100000) :
  ∃ p:Int,f55 (vs,es,ds,()) id = some (p,())∧((p < 0∧hasV vs id = false) ∨ ∃ i:Nat,∃ hi:i < vs.length,p = (i:Int)∧vs[i].1 = id):=by
 rcases f55_eq vs es ds id (by omega) with ⟨h1,h2⟩ | ⟨i,hi,h1,h2⟩
 ·exact ⟨_,h2,.inl ⟨by omega,h1⟩⟩
 ·exact ⟨_,h2,.inr ⟨i,hi,rfl,h1⟩⟩
theorem f57_pl (vs:List Vx) (es:List Ed) (ds:List Int) (id:Int) (hl:es.length≤100000) :
  ∃ p:Int,f57 (vs,es,ds,()) id = some (p,())∧((p < 0∧∀ e∈es,e.1 ≠ id) ∨ ∃ i:Nat,∃ hi:i < es.length,p = (i:Int)∧es[i].1 = id):=by
 rcases f57_at vs es ds id hl with ⟨h1,h2⟩ | ⟨i,hi,h1,h2⟩
 ·exact ⟨_,h2,.inl ⟨by omega,h1⟩⟩
 ·exact ⟨_,h2,.inr ⟨i,hi,rfl,h1⟩⟩
theorem Ok.set_at {vs es ds} (h:Ok vs es ds) (i:Nat) (hi:i < es.length) (x:Ed) (hx:x.1 = (at_ tE es (i:Int)).1) (h1:okE x = true) (h2:hasV vs x.2.1 = true) (h3:hasV vs x.2.2.1 = true):Ok vs (es.set (Int.toNat (i:Int)) x) ds:=by
 rw [Int.toNat_natCast]
 rw [atN tE es i hi] at hx
 exact h.set_e i hi x hx h1 h2 h3
theorem okE_w (e:Ed) (n:Int) (h:okE e = true) (hn:-1000≤n∧n≤1000):okE (e.1,e.2.1,e.2.2.1,e.2.2.2.1,n,e.2.2.2.2.2) = true:=by
 unfold okE at h ⊢
 simp only [Bool.and_eq_true,decide_eq_true_eq] at h ⊢
 omega
theorem okE_c (e:Ed) (n:Int) (h:okE e = true) (hn:0≤n∧n≤1000):okE (e.1,e.2.1,e.2.2.1,e.2.2.2.1,e.2.2.2.2.1,n,()) = true:=by
 unfold okE at h ⊢
 simp only [Bool.and_eq_true,decide_eq_true_eq] at h ⊢
 omega
theorem not_false {b:Bool} (h:(!b) = false):b = true:=by cases b <;> first | rfl | cases h
theorem app_1 {vs es ds} (h:Ok vs es ds) (v:Vx) (hv:okV v = true) (hn:hasV vs v.1 = false) {f:_→Option (Gr × Int × Unit)} {k0:Bool} {k1:Int}
  (hf:∀ i:Nat,i≤vs.length→AppOut (some ((vs.take i++([(v.1,v.2.1,())]++vs.drop i),es,ds,()),0,()))→AppOut (f (((i:Int),()),((k0,()),(k1,()),()),((),(v.1,v.2.1,()),(),(),(),vs,es,ds,())))) :
  AppOut ((f187_l4x k0 k1 v.1 v.2.1 vs es ds (((vs.length:Int) - (0:Int)).toNat + 1) (0:Int)).bind f):=by
 have hnv:=h.nv
 obtain ⟨i,hi,hl,q1,q2⟩:=l4_a k0 k1 v.1 v.2.1 vs es ds (by omega)
 exact app_bind hl (hf i hi (app_yes (h.add_v (v.1,v.2.1,()) hv hn i hi q1 q2)))
set_option maxHeartbeats 1000000 in
theorem app_in {vs es ds} (h:Ok vs es ds) (c:Ch) (he:c.2.2.2.2.2.1.length≤1000) (hd:c.2.2.2.2.2.2.1.length≤1000):AppOut (f83_in (vs,es,ds,()) c):=by
 have hnv:=h.nv
 have hne:=h.ne
 have hdl:=h.dl
 obtain ⟨p,hp,hp2⟩:=f55_pl vs es ds c.2.2.2.1 (by omega)
 obtain ⟨q,hq,hq2⟩:=f57_pl vs es ds c.2.2.2.1 (by omega)
 unfold f83_in
 refine app_bind hp ?_
 refine app_bind hq ?_
 refine app_bif (fun _=>?_) (fun _=>?_)
 ·-- add a vertex
  refine app_bind (f111_eq c.2.1) ?_
  refine app_bif (fun _=>app_no) (fun ho=>?_)
  obtain ⟨r,hr,hr2⟩:=f55_pl vs es ds c.2.1.1 (by omega)
  refine app_bind hr ?_
  rcases hr2 with ⟨hr0,hr3⟩ | ⟨i,hi,hr0,_⟩
  ·refine app_f (dF (by show ¬ r ≥ 0; omega)) ?_
   refine app_1 h c.2.1 (not_false ho) hr3 (fun i hi hy=>?_)
   exact ins_prog vs (c.2.1.1,c.2.1.2.1,()) i hi (by omega) (K:=fun l=>some ((l,es,ds,()),0,())) hy
  ·exact app_t (dT (by show r ≥ 0; omega)) app_no
 refine app_bif (fun _=>?_) (fun _=>?_)
 ·-- drop a vertex
  refine app_bif (fun _=>app_no) (fun hv=>?_)
  rcases hp2 with ⟨hp0,_⟩ | ⟨i,hi,rfl,e⟩
  ·exact absurd (dT hp0) (by rw [hv]; decide)
  refine app_bind (f50_eq (vs,es,ds,()) (by show es.length≤_; omega) c.2.2.2.1) ?_
  refine app_bif (fun _=>app_no) (fun hl=>?_)
  obtain ⟨b,hb1,hb2⟩:=f188_at ds c.2.2.2.1 (by omega)
  refine app_bind hb1 ?_
  refine app_bif (fun _=>app_no) (fun hb=>?_)
  have hnil:∀ x∈es,x.2.1 ≠ vs[i].1∧x.2.2.1 ≠ vs[i].1:=fun x hx=>by
   have hl':¬ ((atE es c.2.2.2.1).length:Int) > 0:=of_decide_eq_false hl
   have hno:isAt c.2.2.2.1 x ≠ true:=fun hat=>by
    have:x∈atE es c.2.2.2.1:=List.mem_filter.2 ⟨hx,hat⟩
    have:=List.length_pos_of_mem this
    omega
   unfold isAt at hno
   rw [e]
   refine ⟨fun h1=>hno ?_,fun h1=>hno ?_⟩ <;> simp [h1]
  exact del_prog vs i hi (by omega) (K:=fun l=>some ((l,es,ds,()),0,())) (app_yes (h.del_v i hi hnil (fun d hd=>by rw [e]; exact hb2 hb d hd)))
 refine app_bif (fun _=>?_) (fun _=>?_)
 ·-- add an edge
  refine app_bind (f112_eq c.2.2.1) ?_
  refine app_bif (fun _=>app_no) (fun ho=>?_)
  obtain ⟨r,hr,hr2⟩:=f55_pl vs es ds c.2.2.1.2.1 (by omega)
  refine app_bind hr ?_
  refine app_bif (fun _=>app_no) (fun hr3=>?_)
  obtain ⟨s,hs,hs2⟩:=f55_pl vs es ds c.2.2.1.2.2.1 (by omega)
  refine app_bind hs ?_
  refine app_bif (fun _=>app_no) (fun hs3=>?_)
  obtain ⟨t,ht,ht2⟩:=f57_pl vs es ds c.2.2.1.1 (by omega)
  refine app_bind ht ?_
  refine app_bif (fun _=>app_no) (fun ht3=>?_)
  have hr4:¬ r < 0:=of_decide_eq_false hr3
  have hs4:¬ s < 0:=of_decide_eq_false hs3
  have ht4:¬ t ≥ 0:=of_decide_eq_false ht3
  have h1:hasV vs c.2.2.1.2.1 = true:=by
   rcases hr2 with ⟨_,_⟩ | ⟨i,hi,_,e⟩
   ·omega
   ·exact hasV_iff.2 ⟨_,List.getElem_mem hi,e⟩
  have h2:hasV vs c.2.2.1.2.2.1 = true:=by
   rcases hs2 with ⟨_,_⟩ | ⟨i,hi,_,e⟩
   ·omega
   ·exact hasV_iff.2 ⟨_,List.getElem_mem hi,e⟩
  have h3:∀ e∈es,e.1 ≠ c.2.2.1.1:=by
   rcases ht2 with ⟨_,h⟩ | ⟨i,hi,_,_⟩
   ·exact h
   ·omega
  obtain ⟨i,hi,hl,q1,q2⟩:=l15 0 c.1 c.2.1.1 c.2.1.2.1 c.2.2.1.1 c.2.2.1.2.1 c.2.2.1.2.2.1 c.2.2.1.2.2.2.1 c.2.2.1.2.2.2.2.1 c.2.2.1.2.2.2.2.2.1 c.2.2.2.1 c.2.2.2.2.1 c.2.2.2.2.2.1 c.2.2.2.2.2.2.1 vs es ds (by omega)
  refine app_bind hl ?_
  exact ins_prog es (c.2.2.1.1,c.2.2.1.2.1,c.2.2.1.2.2.1,c.2.2.1.2.2.2.1,c.2.2.1.2.2.2.2.1,c.2.2.1.2.2.2.2.2.1,()) i hi (by omega) (K:=fun l=>some ((vs,l,ds,()),0,())) (app_yes (h.add_e _ (not_false ho) h1 h2 h3 i hi q1 q2))
 refine app_bif (fun _=>?_) (fun _=>?_)
 ·-- drop an edge
  refine app_bif (fun _=>app_no) (fun hv=>?_)
  rcases hq2 with ⟨hq0,_⟩ | ⟨i,hi,rfl,e⟩
  ·exact absurd (dT hq0) (by rw [hv]; decide)
  exact del_prog es i hi (by omega) (K:=fun l=>some ((vs,l,ds,()),0,())) (app_yes (h.del_e i))
 refine app_bif (fun _=>?_) (fun _=>?_)
 ·-- a weight
  refine app_bif (fun _=>app_no) (fun hv=>?_)
  rcases hq2 with ⟨hq0,_⟩ | ⟨i,hi,rfl,e⟩
  ·exact absurd (dT hq0) (by rw [hv]; decide)
  refine app_bind (f171_eq _ _ _) ?_
  refine app_bif (fun _=>app_no) (fun ho=>?_)
  have ho2:=not_false ho
  simp only [Bool.and_eq_true,decide_eq_true_eq] at ho2
  have ha:=h.oke _ (List.getElem_mem hi)
  have hs:=h.hs _ (List.getElem_mem hi)
  have ht:=h.ht _ (List.getElem_mem hi)
  rw [← atN tE es i hi] at ha hs ht
  refine app_t (by rw [inRN]; exact dT hi) (app_yes (h.set_at i hi _ rfl (okE_w _ _ ha ho2) hs ht))
 refine app_bif (fun _=>?_) (fun _=>?_)
 ·-- a capacity
  refine app_bif (fun _=>app_no) (fun hv=>?_)
  rcases hq2 with ⟨hq0,_⟩ | ⟨i,hi,rfl,e⟩
  ·exact absurd (dT hq0) (by rw [hv]; decide)
  refine app_bind (f171_eq _ _ _) ?_
  refine app_bif (fun _=>app_no) (fun ho=>?_)
  have ho2:=not_false ho
  simp only [Bool.and_eq_true,decide_eq_true_eq] at ho2
  have ha:=h.oke _ (List.getElem_mem hi)
  have hs:=h.hs _ (List.getElem_mem hi)
  have ht:=h.ht _ (List.getElem_mem hi)
  rw [← atN tE es i hi] at ha hs ht
  refine app_t (by rw [inRN]; exact dT hi) (app_yes (h.set_at i hi _ rfl (okE_c _ _ ha ho2) hs ht))
 refine app_bif (fun _=>?_) (fun _=>?_)
 ·-- contract
  refine app_bif (fun _=>app_no) (fun hv=>?_)
  rcases hp2 with ⟨hp0,_⟩ | ⟨i,hi,rfl,e⟩
  ·exact absurd (dT hp0) (by rw [hv]; decide)
  obtain ⟨r,hr,hr2⟩:=f55_pl vs es ds c.2.2.2.2.1 (by omega)
  refine app_bind hr ?_
  refine app_bif (fun _=>app_no) (fun hr3=>?_)
  refine app_bif (fun _=>app_no) (fun hne2=>?_)
  obtain ⟨b,hb1,hb2⟩:=f188_at ds c.2.2.2.1 (by omega)
  refine app_bind hb1 ?_
  refine app_bif (fun _=>app_no) (fun hb=>?_)
  have hr4:¬ r < 0:=of_decide_eq_false hr3
  have hab:c.2.2.2.1 ≠ c.2.2.2.2.1:=of_decide_eq_false hne2
  have h1:hasV vs c.2.2.2.2.1 = true:=by
   rcases hr2 with ⟨_,_⟩ | ⟨i,hi,_,e⟩
   ·omega
   ·exact hasV_iff.2 ⟨_,List.getElem_mem hi,e⟩
  refine app_bind (l38 (i:Int) 0 c.1 c.2.1.1 c.2.1.2.1 c.2.2.1.1 c.2.2.1.2.1 c.2.2.1.2.2.1 c.2.2.1.2.2.2.1 c.2.2.1.2.2.2.2.1 c.2.2.1.2.2.2.2.2.1 c.2.2.2.1 c.2.2.2.2.1 c.2.2.2.2.2.1 c.2.2.2.2.2.2.1 vs es ds (by omega)) ?_
  refine del_prog vs i hi (by omega) (K:=fun l=>some ((l,es.map (ren c.2.2.2.1 c.2.2.2.2.1),ds,()),0,())) (app_yes ((ren_ok h _ _ h1).del_v i hi (fun x hx=>?_) (fun d hd=>by rw [e]; exact hb2 hb d hd)))
  obtain ⟨x0,_,rfl⟩:=List.mem_map.1 hx
  rw [e]
  exact ren_ne _ _ hab x0
 refine app_bif (fun _=>?_) (fun _=>?_)
 ·-- split
  rcases l47 p 0 c.1 c.2.1.1 c.2.1.2.1 c.2.2.1.1 c.2.2.1.2.1 c.2.2.1.2.2.1 c.2.2.1.2.2.2.1 c.2.2.1.2.2.2.2.1 c.2.2.1.2.2.2.2.2.1 c.2.2.2.1 c.2.2.2.2.1 c.2.2.2.2.2.1 c.2.2.2.2.2.2.1 vs es ds (by omega) (by omega) c.2.2.2.2.2.1.length (((c.2.2.2.2.2.1.length:Int) - (0:Int)).toNat + 1) 0 (by omega) (by omega) with hl | ⟨hl,hends⟩
  ·refine app_bind hl ?_
   exact app_no
  ·refine app_bind hl ?_
   refine app_bind (f111_eq (c.2.1.1,c.2.1.2.1,())) ?_
   refine app_bif (fun _=>app_bif (fun _=>app_no) (fun _=>app_no)) (fun ho=>?_)
   obtain ⟨r,hr,hr2⟩:=f55_pl vs es ds c.2.1.1 (by omega)
   refine app_bind hr ?_
   refine app_bif (fun _=>app_bif (fun _=>app_no) (fun _=>app_no)) (fun hr3=>?_)
   have hr4:¬ r ≥ 0:=of_decide_eq_false hr3
   have hnv2:hasV vs c.2.1.1 = false:=by
    rcases hr2 with ⟨_,h⟩ | ⟨i,hi,_,_⟩
    ·exact h
    ·omega
   obtain ⟨i,hi,hl4,q1,q2⟩:=l4_b p 0 c.2.1.1 c.2.1.2.1 c.1 c.2.1.1 c.2.1.2.1 c.2.2.1.1 c.2.2.1.2.1 c.2.2.1.2.2.1 c.2.2.1.2.2.2.1 c.2.2.1.2.2.2.2.1 c.2.2.1.2.2.2.2.2.1 c.2.2.2.1 c.2.2.2.2.1 c.2.2.2.2.2.1 c.2.2.2.2.2.2.1 vs es ds (by omega)
   refine app_bind hl4 ?_
   have h8:Ok (vs.take i++([(c.2.1.1,c.2.1.2.1,())]++vs.drop i)) es ds:=h.add_v (c.2.1.1,c.2.1.2.1,()) (not_false ho) hnv2 i hi q1 q2
   refine ins_prog vs (c.2.1.1,c.2.1.2.1,()) i hi (by omega) (K:=fun l=>bif (decide (p < (0:Int))) then some (([],([],([],()))),(30:Int),()) else
    (f128_l55x 0 c.1 c.2.1.1 c.2.1.2.1 c.2.2.1.1 c.2.2.1.2.1 c.2.2.1.2.2.1 c.2.2.1.2.2.2.1 c.2.2.1.2.2.2.2.1 c.2.2.1.2.2.2.2.2.1 c.2.2.2.1 c.2.2.2.2.1 c.2.2.2.2.2.1 c.2.2.2.2.2.2.1 l ds (((c.2.2.2.2.2.1.length:Int) - (0:Int)).toNat + 1) (0:Int) es).bind fun o111=>some ((o111.2.2.2.2.2.1,(o111.2.2.2.2.2.2.1,(o111.2.2.2.2.2.2.2.1,()))),(0:Int),())) ?_
   refine app_bif (fun _=>app_no) (fun hp3=>?_)
   rcases hp2 with ⟨hp0,_⟩ | ⟨v,hv,rfl,e⟩
   ·exact absurd (dT hp0) (by rw [hp3]; decide)
   have hge:0≤c.2.2.2.1:=by
    rw [← e]
    exact (h.okv _ (List.getElem_mem hv)).1
   obtain ⟨es',e1,e2⟩:=l55 0 c.1 c.2.1.1 c.2.1.2.1 c.2.2.1.1 c.2.2.1.2.1 c.2.2.1.2.2.1 c.2.2.1.2.2.2.1 c.2.2.1.2.2.2.2.1 c.2.2.1.2.2.2.2.2.1 c.2.2.2.1 c.2.2.2.2.1 c.2.2.2.2.2.1 c.2.2.2.2.2.2.1 (vs.take i++([(c.2.1.1,c.2.1.2.1,())]++vs.drop i)) ds (by omega) (hasV_iff.2 ⟨(c.2.1.1,c.2.1.2.1,()),(mem_ins _ _ _ _).2 (.inl rfl),rfl⟩)
    c.2.2.2.2.2.1.length (((c.2.2.2.2.2.1.length:Int) - (0:Int)).toNat + 1) 0 es h8 (fun x hx=>by
     obtain ⟨n,n1,n2⟩:=f91_at vs es ds x (by omega)
     have:=hends x (by simpa using hx)
     rw [n1] at this
     simp only [Option.some.injEq,Prod.mk.injEq,and_true] at this
     exact n2 (by omega)) (by omega) (by omega)
   exact app_bind e1 (app_yes e2)
 refine app_bif (fun _=>?_) (fun _=>?_)
 ·-- a side
  refine app_bif (fun _=>app_no) (fun hv=>?_)
  rcases hp2 with ⟨hp0,_⟩ | ⟨i,hi,rfl,e⟩
  ·exact absurd (dT hp0) (by rw [hv]; decide)
  refine app_bind (f171_eq _ _ _) ?_
  refine app_bif (fun _=>app_no) (fun ho=>?_)
  have ho2:=not_false ho
  simp only [Bool.and_eq_true,decide_eq_true_eq] at ho2
  refine app_t (by rw [inRN]; exact dT hi) (app_yes ?_)
  rw [Int.toNat_natCast]
  exact h.set_v i hi _ (by rw [← atN tV vs i hi]) ho2
 ·refine app_t (appLe _ (by omega)) ?_
  refine app_bind (f48_eq (vs,es,c.2.2.2.2.2.2) (by show vs.length≤_; omega) (by show es.length≤_; omega) (by show c.2.2.2.2.2.2.1.length≤_; omega)) ?_
  exact app_bif (fun _=>app_no) (fun ho=>⟨_,_,rfl,fun _=>not_false ho⟩)
end Go.V.G
