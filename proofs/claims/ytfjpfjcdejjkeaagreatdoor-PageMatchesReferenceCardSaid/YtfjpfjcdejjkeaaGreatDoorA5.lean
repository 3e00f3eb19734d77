/- Part of the proof. -/
import Derived.KernelRfl
import Derived.Test.YtfjpfjcdejjkeaaGreatDoorA4
set_option linter.all false
set_option linter.unusedVariables false
set_option linter.unusedSectionVars false
set_option linter.unusedSimpArgs false
namespace Go.V.G
open Go.Proofs
theorem nbytes_cut (s:ByteArray) (a e:Nat) (h1:a ≤ e) (h2:e ≤ s.size):nbytes (cutS s (some (a:Int)) (some (e:Int))) = ((nbytes s).drop a).take (e - a):=by
 unfold cutS nbytes cutHi
 simp only [Option.getD_some,Int.toNat_natCast,ByteArray.data_extract,Array.toList_extract,List.extract_eq_take_drop,List.map_take,List.map_drop]
theorem rint_loop (s:ByteArray) (hs:s.size ≤ 1099511627776) (a:Nat) (ha:a ≤ s.size):∀ (j i z:Nat),i + j = 9 → z < 128 ^ i →
  f122_l5 s (a:Int) (j + 1) (z:Int) (i:Int) = match rd j ((nbytes s).drop (a + i)) with
   | none=>some (.inl ((),(),()))
   | some p=>if -maxI ≤ zag (z + 128 ^ i * val p) ∧ enc (zag (z + 128 ^ i * val p)) = cutS s (some (a:Int)) (some ((a + i + p.length:Nat):Int)) then some (.inr ((zag (z + 128 ^ i * val p),((a + i + p.length:Nat):Int),0,()),(),()))
     else some (.inr ((0,0,10,()),(),())):=by
 intro j
 induction j with
 | zero =>
  intro i z hi hz
  have:i = 9:=by omega
  subst this
  unfold f122_l5
  rfl
 | succ j ih =>
  intro i z hi hz
  have e0:decide ((i:Int) < 9) = true:=by simp; omega
  have e1:IntKind.wrap .i64 ((a:Int) + (i:Int)) = ((a + i:Nat):Int):=by rw [wrap_i64 _ (by omega) (by omega)]; omega
  unfold f122_l5
  simp only [e0,cond_true,e1]
  by_cases hsz:a + i < s.size
  ·have e2:decide (((a + i:Nat):Int) < (s.size:Int)) = true:=by simp; omega
   have e3:inR ((a + i:Nat):Int) s.size = true:=by unfold inR; simp; omega
   have e4:IntKind.wrap .i64 (7 * (i:Int)) = ((7 * i:Nat):Int):=by rw [wrap_i64 _ (by omega) (by omega)]; omega
   have e5:decide (0 ≤ ((7 * i:Nat):Int)) = true:=by simp; omega
   obtain ⟨b,hb⟩:∃ b,(nbytes s)[a + i]'(by rw [nbytes_len]; exact hsz) = b:=⟨_,rfl⟩
   have hb256:b < 256:=by rw [← hb]; exact nb_lt s _ (List.getElem_mem _)
   have hdrop:(nbytes s).drop (a + i) = b :: (nbytes s).drop (a + (i + 1)):=by
    rw [List.drop_eq_getElem_cons (by rw [nbytes_len]; exact hsz),hb,Nat.add_assoc]
   have w1:IntKind.wrap .u64 (b:Int) = (b:Int):=wrap_u64 _ (by omega) (by omega)
   have w2:Int.tmod (b:Int) 128 = ((b % 128:Nat):Int):=rfl
   have hlt64:z + b % 128 * 128 ^ i < 2 ^ 63:=by
    have h1:z + b % 128 * 128 ^ i < (b % 128 + 1) * 128 ^ i:=by rw [Nat.add_mul]; omega
    have h2:(b % 128 + 1) * 128 ^ i ≤ 128 * 128 ^ i:=Nat.mul_le_mul_right _ (by omega)
    have h3:(128:Nat) ^ (i + 1) ≤ 128 ^ 9:=Nat.pow_le_pow_right (by decide) (by omega)
    have h4:(128:Nat) ^ 9 = 2 ^ 63:=by decide
    rw [Nat.pow_succ,Nat.mul_comm] at h3
    omega
   have w3:IntKind.wrap .u64 ((z:Int) + ((b % 128 * 128 ^ i:Nat):Int)) = ((z + b % 128 * 128 ^ i:Nat):Int):=by
    have:(z:Int) + ((b % 128 * 128 ^ i:Nat):Int) = ((z + b % 128 * 128 ^ i:Nat):Int):=by push_cast; rfl
    rw [this,wrap_u64 _ (by omega) (by omega)]
   simp only [e2,e3,e4,e5,cond_true,byteAt_nb s _ hsz,hb,w1,w2,shl7 (b % 128) i (by omega) (by omega),w3]
   rw [hdrop]
   have hz':z + b % 128 * 128 ^ i < 128 ^ (i + 1):=by
    have h1:z + b % 128 * 128 ^ i < (b % 128 + 1) * 128 ^ i:=by rw [Nat.add_mul]; omega
    have h2:(b % 128 + 1) * 128 ^ i ≤ 128 * 128 ^ i:=Nat.mul_le_mul_right _ (by omega)
    rw [Nat.pow_succ,Nat.mul_comm (128 ^ i)]
    omega
   by_cases h128:128 ≤ b
   ·have e6:decide ((b:Int) ≥ 128) = true:=by simp; omega
    have e7:IntKind.wrap .i64 ((i:Int) + 1) = ((i + 1:Nat):Int):=by rw [wrap_i64 _ (by omega) (by omega)]; omega
    simp only [e6,cond_true,e7,ih (i + 1) (z + b % 128 * 128 ^ i) (by omega) hz']
    rw [rd,if_pos h128]
    cases hr:rd j ((nbytes s).drop (a + (i + 1))) with
    | none=>rfl
    | some p =>
     simp only [Option.map_some]
     have hv:z + b % 128 * 128 ^ i + 128 ^ (i + 1) * val p = z + 128 ^ i * val (b :: p):=by
      simp only [val]
      rw [Nat.pow_succ,Nat.mul_add,Nat.add_assoc,Nat.mul_comm (b % 128),Nat.mul_assoc]
     have hlen:a + (i + 1) + p.length = a + i + (b :: p).length:=by simp; omega
     rw [hv,hlen]
   ·have e6:decide ((b:Int) ≥ 128) = false:=by simp; omega
    have hv:z + b % 128 * 128 ^ i = z + 128 ^ i * val [b]:=by simp only [val]; rw [Nat.mul_zero,Nat.add_zero,Nat.mul_comm]
    have e8:IntKind.wrap .i64 (((a + i:Nat):Int) + 1) = ((a + i + 1:Nat):Int):=by rw [wrap_i64 _ (by omega) (by omega)]; omega
    simp only [e6,cond_false,e8]
    rw [rd,if_neg h128]
    simp only [List.length_singleton,← hv]
    generalize hZ:z + b % 128 * 128 ^ i = Z at hlt64 ⊢
    have d1:Int.tdiv (Z:Int) 2 = ((Z / 2:Nat):Int):=rfl
    have d2:Int.tmod (Z:Int) 2 = ((Z % 2:Nat):Int):=rfl
    have d3:IntKind.wrap .u64 ((Z / 2:Nat):Int) = ((Z / 2:Nat):Int):=wrap_u64 _ (by omega) (by omega)
    have d4:IntKind.wrap .i64 ((Z / 2:Nat):Int) = ((Z / 2:Nat):Int):=wrap_i64 _ (by omega) (by omega)
    have ec:cutOk s.size (some (a:Int)) (some ((a + i + 1:Nat):Int)) = true:=by simp only [cutOk,Bool.and_eq_true,decide_eq_true_eq]; omega
    have fin:∀ n:Int,n = zag Z → n ≤ maxI →
      ((f172 n).bind fun y=>bif decide (y.2.1 ≠ (0:Int)) then some (.inr (((0:Int),(0:Int),(10:Int),()),(),())) else bif cutOk s.size (some (a:Int)) (some ((a + i + 1:Nat):Int)) then
       (bif !(decide (y.1 = (cutS s (some (a:Int)) (some ((a + i + 1:Nat):Int))))) then some (.inr (((0:Int),(0:Int),(10:Int),()),(),())) else some (.inr ((n,((a + i + 1:Nat):Int),(0:Int),()),(),()))) else none:Option (outDen f122_l5_outs))
      = if -maxI ≤ zag Z ∧ enc (zag Z) = cutS s (some (a:Int)) (some ((a + i + 1:Nat):Int)) then some (.inr ((zag Z,((a + i + 1:Nat):Int),0,()),(),())) else some (.inr ((0,0,10,()),(),())):=by
     intro n hn hle
     subst hn
     by_cases h1:-maxI ≤ zag Z
     ·rw [f172_eq h1 hle,Option.bind_some]
      simp only [ne_eq,not_true_eq_false,decide_false,cond_false,ec,cond_true]
      by_cases h2:enc (zag Z) = cutS s (some (a:Int)) (some ((a + i + 1:Nat):Int))
      ·rw [if_pos ⟨h1,h2⟩,dT h2]
       rfl
      ·rw [if_neg (fun h=>h2 h.2),dF h2]
       rfl
     ·rw [f172_bad (fun h=>h1 h.1),Option.bind_some,if_neg (fun h=>h1 h.1)]
      rfl
    have hm:Z % 2 = 0 ∨ Z % 2 = 1:=by omega
    rcases hm with hm | hm
    ·have hz0:((Z / 2:Nat):Int) = zag Z:=by unfold zag; rw [if_neg (by omega)]
     have e9:decide (((Z % 2:Nat):Int) = 1) = false:=by simp; omega
     simp only [d1,d2,d3,d4,e9,cond_false]
     rw [hz0]
     exact fin _ rfl (by rw [← hz0]; unfold maxI; omega)
    ·have e9:decide (((Z % 2:Nat):Int) = 1) = true:=by simp; omega
     have d5:IntKind.wrap .i64 (0 - ((Z / 2:Nat):Int)) = -((Z / 2:Nat):Int):=by rw [wrap_i64 _ (by omega) (by omega)]; omega
     have d6:IntKind.wrap .i64 (-((Z / 2:Nat):Int) - 1) = -((Z / 2:Nat):Int) - 1:=wrap_i64 _ (by omega) (by omega)
     have hz1:-((Z / 2:Nat):Int) - 1 = zag Z:=by unfold zag; rw [if_pos hm]
     simp only [d1,d2,d3,d4,d5,d6,e9,cond_true]
     rw [hz1]
     exact fin _ rfl (by rw [← hz1]; unfold maxI; omega)
  ·have e2:decide (((a + i:Nat):Int) < (s.size:Int)) = false:=by simp; omega
   have hdrop:(nbytes s).drop (a + i) = []:=List.drop_of_length_le (by rw [nbytes_len]; omega)
   simp only [e2,cond_false,hdrop]
   rfl
theorem f122_eq (s:ByteArray) (hs:s.size ≤ 1099511627776) (a:Nat) (ha:a ≤ s.size) :
  f122 s (a:Int) = match dec ((nbytes s).drop a) with
   | some (n,k)=>some (n,((a + k:Nat):Int),0,())
   | none=>some (0,0,10,()):=by
 have e1:decide ((a:Int) < 0) = false:=by simp
 have e2:decide ((a:Int) > (s.size:Int)) = false:=by simp; omega
 have h:=rint_loop s hs a ha 9 0 0 rfl (by decide)
 unfold f122
 simp only [e1,e2,cond_false]
 have h':f122_l5 s (a:Int) (((9:Int) - (0:Int)).toNat + 1) (0:Int) (0:Int) = _:=h
 rw [h']
 simp only [Nat.add_zero,Nat.zero_add,Nat.pow_zero,Nat.one_mul]
 unfold dec
 cases hr:rd 9 ((nbytes s).drop a) with
 | none=>rfl
 | some p =>
  obtain ⟨_,_,t,ht⟩:=rd_spec hr
  have hle:a + p.length ≤ s.size:=by
   have:=congrArg List.length ht
   rw [List.length_drop,nbytes_len,List.length_append] at this
   omega
  have hiff:enc (zag (val p)) = cutS s (some (a:Int)) (some ((a + p.length:Nat):Int)) ↔ grpN (val p) = p:=by
   have hcut:nbytes (cutS s (some (a:Int)) (some ((a + p.length:Nat):Int))) = p:=by
    rw [nbytes_cut s a _ (by omega) hle,ht,Nat.add_sub_cancel_left,List.take_left']
    rfl
   constructor
   ·intro e
    have h2:=hcut
    rw [← e,nbytes_enc,zig_zag] at h2
    exact h2
   ·intro e
    refine nbytes_inj ?_
    rw [hcut,nbytes_enc,zig_zag,e]
  simp only [hiff]
  by_cases h1:grpN (val p) = p ∧ -maxI ≤ zag (val p)
  ·rw [if_pos ⟨h1.2,h1.1⟩,if_pos h1]
   rfl
  ·rw [if_neg (fun h=>h1 ⟨h.2,h.1⟩),if_neg h1]
   rfl
end Go.V.G
namespace Go.V.G
open Go.Proofs
theorem atN (T:Ty) (l:List T.den) (j:Nat) (h:j < l.length):at_ T l (j:Int) = l[j]:=by
 unfold at_
 rw [Int.toNat_natCast,List.getD_eq_getElem?_getD,List.getElem?_eq_getElem h]
 rfl
theorem inRN (j n:Nat):inR (j:Int) n = decide (j < n):=by
 unfold inR
 by_cases h:j < n <;> simp [h]
theorem wI (n:Nat) (h:n < 9223372036854775808):IntKind.wrap .i64 (n:Int) = (n:Int):=wrap_i64 _ (by omega) (by omega)
theorem wS (n:Nat) (h:n < 9223372036854775807):IntKind.wrap .i64 ((n:Int) + 1) = ((n + 1:Nat):Int):=by rw [wrap_i64 _ (by omega) (by omega)]; omega
def asc {α:Type} (f:α → Int):List α → Bool
 | []=>true
 | a :: l=>(match l with | []=>true | b :: _=>decide (f a < f b)) && asc f l
theorem asc_two {α:Type} (f:α → Int) (a b:α) (l:List α):asc f (a :: b :: l) = (decide (f a < f b) && asc f (b :: l)):=rfl
theorem asc_short {α:Type} (f:α → Int) {l:List α} (h:l.length ≤ 1):asc f l = true:=by
 match l,h with
 | [],_=>rfl
 | [a],_=>rfl
theorem asc_pairwise {α:Type} (f:α → Int):∀ {l:List α},asc f l = true ↔ l.Pairwise (fun a b=>f a < f b)
 | []=>by simp [asc]
 | [a]=>by simp [asc]
 | a :: b :: l=>by
  rw [asc_two,Bool.and_eq_true,decide_eq_true_eq,asc_pairwise (l:=b :: l),List.pairwise_cons (a:=a)]
  constructor
  ·rintro ⟨h1,h2⟩
   refine ⟨fun c hc=>?_,h2⟩
   rcases List.mem_cons.1 hc with rfl | hc
   ·exact h1
   ·exact Int.lt_trans h1 ((List.pairwise_cons.1 h2).1 c hc)
  ·rintro ⟨h1,h2⟩
   exact ⟨h1 b (List.mem_cons_self ..),h2⟩
section
variable {α:Type} {R:Type}
theorem asc_loop (T:Ty) (f:T.den → Int) (F:Nat → Int → Option R) (yes no:R) (l:List T.den) (hl:l.length ≤ 1099511627776)
  (hF:∀ k (j:Nat),1 ≤ j → F (k + 1) (j:Int) = if h:j < l.length then (if f (l[j - 1]'(by omega)) ≥ f l[j] then some no else F k ((j + 1:Nat):Int)) else some yes) :
  ∀ (m k j:Nat),l.length - j ≤ m → m < k → 1 ≤ j → F k (j:Int) = some (if asc f (l.drop (j - 1)) then yes else no):=by
 intro m
 induction m with
 | zero =>
  intro k j h1 h2 h3
  obtain ⟨k,rfl⟩:∃ q,k = q + 1:=⟨k - 1,by omega⟩
  rw [hF k j h3,dif_neg (by omega)]
  have:asc f (l.drop (j - 1)) = true:=asc_short f (by rw [List.length_drop]; omega)
  rw [this]
  rfl
 | succ m ih =>
  intro k j h1 h2 h3
  obtain ⟨k,rfl⟩:∃ q,k = q + 1:=⟨k - 1,by omega⟩
  rw [hF k j h3]
  by_cases h:j < l.length
  ·rw [dif_pos h]
   have hd:l.drop (j - 1) = l[j - 1]'(by omega) :: l[j] :: l.drop (j + 1):=by
    rw [List.drop_eq_getElem_cons (by omega:j - 1 < l.length)]
    have:j - 1 + 1 = j:=by omega
    rw [this,List.drop_eq_getElem_cons h]
   have hd2:l.drop j = l[j] :: l.drop (j + 1):=List.drop_eq_getElem_cons h
   rw [hd,asc_two,← hd2]
   by_cases hc:f (l[j - 1]'(by omega)) ≥ f l[j]
   ·rw [if_pos hc]
    have:decide (f (l[j - 1]'(by omega)) < f l[j]) = false:=by simp; omega
    rw [this,Bool.false_and]
    rfl
   ·rw [if_neg hc,ih k (j + 1) (by omega) (by omega) (by omega),Nat.add_sub_cancel]
    have:decide (f (l[j - 1]'(by omega)) < f l[j]) = true:=by simp; omega
    rw [this,Bool.true_and]
  ·rw [dif_neg h]
   have:asc f (l.drop (j - 1)) = true:=asc_short f (by rw [List.length_drop]; omega)
   rw [this]
   rfl
end
theorem pred_wrap (j:Nat) (h1:1 ≤ j) (h2:j < 9223372036854775807):IntKind.wrap .i64 ((j:Int) - 1) = ((j - 1:Nat):Int):=by
 rw [wrap_i64 _ (by omega) (by omega)]
 omega
abbrev kV (x:Vx):Int:=x.1
abbrev kE (x:Ed):Int:=x.1
abbrev kI (x:Int):Int:=x
theorem f98_eq (l:List Vx) (hl:l.length ≤ 1099511627776):f98 l = some ((asc kV l,()),()):=by
 have h:=asc_loop tV (kV:Vx → Int) (fun k j=>f98_l2 l k j) (.inl ((),((),()),())) (.inr ((false,()),((),()),())) l hl (by
  intro k j hj
  show f98_l2 l (k + 1) (j:Int) = _
  conv=>lhs; unfold f98_l2
  by_cases h:j < l.length
  ·have e1:decide ((j:Int) < (l.length:Int)) = true:=by simp; omega
   rw [dif_pos h]
   simp only [e1,cond_true,pred_wrap j hj (by omega),inRN,wS j (by omega)]
   rw [dT (by omega:j - 1 < l.length),dT h]
   simp only [cond_true]
   rw [atN tV l (j - 1) (by omega),atN tV l j h]
   by_cases hc:kV (l[j - 1]'(by omega)) ≥ kV l[j]
   ·rw [if_pos hc,dT hc]; rfl
   ·rw [if_neg hc,dF hc]; rfl
  ·have e1:decide ((j:Int) < (l.length:Int)) = false:=by simp; omega
   rw [dif_neg h]
   simp only [e1,cond_false])
 have h2:=h (l.length - 1) (((l.length:Int) - (1:Int)).toNat + 1) 1 (by omega) (by omega) (by omega)
 unfold f98
 have h3:f98_l2 l (((l.length:Int) - (1:Int)).toNat + 1) (1:Int) = _:=h2
 rw [h3]
 simp only [Nat.sub_self,List.drop_zero,Option.bind_some]
 cases asc (kV:Vx → Int) l <;> rfl
theorem f100_eq (l:List Ed) (hl:l.length ≤ 1099511627776):f100 l = some ((asc kE l,()),()):=by
 have h:=asc_loop tE (kE:Ed → Int) (fun k j=>f100_l2 l k j) (.inl ((),((),()),())) (.inr ((false,()),((),()),())) l hl (by
  intro k j hj
  show f100_l2 l (k + 1) (j:Int) = _
  conv=>lhs; unfold f100_l2
  by_cases h:j < l.length
  ·have e1:decide ((j:Int) < (l.length:Int)) = true:=by simp; omega
   rw [dif_pos h]
   simp only [e1,cond_true,pred_wrap j hj (by omega),inRN,wS j (by omega)]
   rw [dT (by omega:j - 1 < l.length),dT h]
   simp only [cond_true]
   rw [atN tE l (j - 1) (by omega),atN tE l j h]
   by_cases hc:kE (l[j - 1]'(by omega)) ≥ kE l[j]
   ·rw [if_pos hc,dT hc]; rfl
   ·rw [if_neg hc,dF hc]; rfl
  ·have e1:decide ((j:Int) < (l.length:Int)) = false:=by simp; omega
   rw [dif_neg h]
   simp only [e1,cond_false])
 have h2:=h (l.length - 1) (((l.length:Int) - (1:Int)).toNat + 1) 1 (by omega) (by omega) (by omega)
 unfold f100
 have h3:f100_l2 l (((l.length:Int) - (1:Int)).toNat + 1) (1:Int) = _:=h2
 rw [h3]
 simp only [Nat.sub_self,List.drop_zero,Option.bind_some]
 cases asc (kE:Ed → Int) l <;> rfl
theorem f161_eq (l:List Int) (hl:l.length ≤ 1099511627776):f161 l = some ((asc kI l,()),()):=by
 have h:=asc_loop tI (kI:Int → Int) (fun k j=>f161_l2 l k j) (.inl ((),((),()),())) (.inr ((false,()),((),()),())) l hl (by
  intro k j hj
  show f161_l2 l (k + 1) (j:Int) = _
  conv=>lhs; unfold f161_l2
  by_cases h:j < l.length
  ·have e1:decide ((j:Int) < (l.length:Int)) = true:=by simp; omega
   rw [dif_pos h]
   simp only [e1,cond_true,pred_wrap j hj (by omega),inRN,wS j (by omega)]
   rw [dT (by omega:j - 1 < l.length),dT h]
   simp only [cond_true]
   rw [atN tI l (j - 1) (by omega),atN tI l j h]
   by_cases hc:kI (l[j - 1]'(by omega)) ≥ kI l[j]
   ·rw [if_pos hc,dT hc]; rfl
   ·rw [if_neg hc,dF hc]; rfl
  ·have e1:decide ((j:Int) < (l.length:Int)) = false:=by simp; omega
   rw [dif_neg h]
   simp only [e1,cond_false])
 have h2:=h (l.length - 1) (((l.length:Int) - (1:Int)).toNat + 1) 1 (by omega) (by omega) (by omega)
 unfold f161
 have h3:f161_l2 l (((l.length:Int) - (1:Int)).toNat + 1) (1:Int) = _:=h2
 rw [h3]
 simp only [Nat.sub_self,List.drop_zero,Option.bind_some]
 cases asc (kI:Int → Int) l <;> rfl
end Go.V.G
namespace Go.V.G
open Go.Proofs
section
variable {R:Type}
theorem find_loop (T:Ty) (ok:T.den → Bool) (F:Nat → Int → Option R) (yes:R) (no:Nat → R) (l:List T.den)
  (hF:∀ k (j:Nat),F (k + 1) (j:Int) = if h:j < l.length then (if ok l[j] = true then F k ((j + 1:Nat):Int) else some (no j)) else some yes) :
  ∀ (m k j:Nat),l.length - j ≤ m → m < k → ((l.drop j).all ok = true ∧ F k (j:Int) = some yes) ∨ ((l.drop j).all ok = false ∧ ∃ i,j ≤ i ∧ i < l.length ∧ F k (j:Int) = some (no i)):=by
 intro m
 induction m with
 | zero =>
  intro k j h1 h2
  obtain ⟨k,rfl⟩:∃ q,k = q + 1:=⟨k - 1,by omega⟩
  rw [hF k j,dif_neg (by omega),List.drop_of_length_le (by omega)]
  exact .inl ⟨rfl,rfl⟩
 | succ m ih =>
  intro k j h1 h2
  obtain ⟨k,rfl⟩:∃ q,k = q + 1:=⟨k - 1,by omega⟩
  rw [hF k j]
  by_cases h:j < l.length
  ·rw [dif_pos h,List.drop_eq_getElem_cons h,List.all_cons]
   cases hok:ok l[j] with
   | true =>
    simp only [if_true,Bool.true_and]
    rcases ih k (j + 1) (by omega) (by omega) with h3 | ⟨h3,i,h4,h5,h6⟩
    ·exact .inl h3
    ·exact .inr ⟨h3,i,by omega,h5,h6⟩
   | false =>
    simp only [Bool.false_eq_true,if_false,Bool.false_and]
    exact .inr ⟨trivial,j,Nat.le_refl _,h,rfl⟩
  ·rw [dif_neg h,List.drop_of_length_le (by omega)]
   exact .inl ⟨rfl,rfl⟩
end
def hasV (vs:List Vx) (id:Int):Bool:=vs.any fun v=>decide (v.1 = id)
theorem f199_eq (a b:Int):f199 a b = some (if a < b then -1 else if a = b then 0 else 1,()):=by
 unfold f199
 simp only [ne_eq,not_true_eq_false,decide_false,cond_false]
 by_cases h1:a < b
 ·rw [dT h1,if_pos h1]; rfl
 ·rw [dF h1,if_neg h1]
  by_cases h2:a > b
  ·have h3:¬ a = b:=by omega
   simp only [cond_false,dT h2,cond_true,if_neg h3]
  ·have h3:a = b:=by omega
   simp only [cond_false,dF h2,if_pos h3]
theorem search_loop (l:List Vx) (hl:l.length ≤ 1099511627776) (id n:Int) (q1:Int) (q2 q3:Bool) (g0:List Vx) (g1:List Ed) (g2:List Int) (ha:l.Pairwise (fun a b=>a.1 < b.1)) :
  ∀ (m k lo hi:Nat),hi - lo ≤ m → m < k → lo ≤ hi → hi ≤ l.length → (∀ i (h:i < l.length),i < lo → l[i].1 < id) → (∀ i (h:i < l.length),hi ≤ i → id ≤ l[i].1) →
   ∃ p:Nat,p ≤ l.length ∧ (∀ i (h:i < l.length),i < p → l[i].1 < id) ∧ (∀ i (h:i < l.length),p ≤ i → id ≤ l[i].1) ∧
    f202_l3x l id n q1 q2 q3 g0 g1 g2 k (lo:Int) (hi:Int) = some ((l,id,n,(p:Int),()),((q1,q2,()),(q3,()),(),()),((g0,g1,g2,()),())):=by
 intro m
 induction m with
 | zero =>
  intro k lo hi h1 h2 h3 h4 h5 h6
  obtain ⟨k,rfl⟩:∃ q,k = q + 1:=⟨k - 1,by omega⟩
  have:lo = hi:=by omega
  subst this
  refine ⟨lo,h4,h5,h6,?_⟩
  unfold f202_l3x
  have e:decide ((lo:Int) < (lo:Int)) = false:=by simp
  simp only [e,cond_false]
  rfl
 | succ m ih =>
  intro k lo hi h1 h2 h3 h4 h5 h6
  obtain ⟨k,rfl⟩:∃ q,k = q + 1:=⟨k - 1,by omega⟩
  by_cases hlt:lo < hi
  ·have e1:decide ((lo:Int) < (hi:Int)) = true:=by simp; omega
   have w1:IntKind.wrap .i64 ((lo:Int) + (hi:Int)) = ((lo + hi:Nat):Int):=by rw [wrap_i64 _ (by omega) (by omega)]; omega
   have w2:IntKind.wrap .u64 ((lo + hi:Nat):Int) = ((lo + hi:Nat):Int):=wrap_u64 _ (by omega) (by omega)
   have w3:shrV .u64 ((lo + hi:Nat):Int) 1 = (((lo + hi) / 2:Nat):Int):=by
    unfold shrV
    rw [Int.fdiv_eq_ediv_of_nonneg _ (by decide)]
    rfl
   have w4:IntKind.wrap .i64 (((lo + hi) / 2:Nat):Int) = (((lo + hi) / 2:Nat):Int):=wI _ (by omega)
   have hmid:(lo + hi) / 2 < l.length:=by omega
   generalize hc:(lo + hi) / 2 = c at *
   have e2:inR (c:Int) l.length = true:=by rw [inRN,dT hmid]
   have w5:IntKind.wrap .i64 ((c:Int) + 1) = ((c + 1:Nat):Int):=wS c (by omega)
   have hp:=List.pairwise_iff_getElem.1 ha
   unfold f202_l3x
   simp only [e1,cond_true,w1,w2,w3,hc,w4,e2,w5,f199_eq,Option.bind_some]
   have hget:at_ tV l (c:Int) = l[c]:=atN tV l c hmid
   rw [hget]
   by_cases hl1:l[c].1 < id
   ·rw [if_pos hl1]
    have:decide ((-1:Int) < 0) = true:=by decide
    simp only [this,cond_true]
    refine ih k (c + 1) hi (by omega) (by omega) (by omega) h4 (fun i hi' hic=>?_) h6
    by_cases hic2:i = c
    ·subst hic2; exact hl1
    ·exact Int.lt_trans (hp i c hi' hmid (by omega)) hl1
   ·rw [if_neg hl1]
    have:decide ((if l[c].1 = id then (0:Int) else 1) < 0) = false:=by split <;> decide
    simp only [this,cond_false]
    refine ih k lo c (by omega) (by omega) (by omega) (by omega) h5 (fun i hi' hic=>?_)
    by_cases hic2:i = c
    ·subst hic2; omega
    ·have:=hp c i hmid hi' (by omega)
     omega
  ·have:lo = hi:=by omega
   subst this
   refine ⟨lo,h4,h5,h6,?_⟩
   unfold f202_l3x
   have e:decide ((lo:Int) < (lo:Int)) = false:=by simp
   simp only [e,cond_false]
   rfl
theorem f104_eq (vs:List Vx) (hl:vs.length ≤ 1099511627776) (es:List Ed) (ds:List Int) (ha:asc kV vs = true) (id:Int):f104 id vs es ds = some ((hasV vs id,()),((vs,es,ds,()),())):=by
 have hp:=(asc_pairwise kV).1 ha
 obtain ⟨p,h1,h2,h3,h4⟩:=search_loop vs hl id (vs.length:Int) 0 false false vs es ds hp vs.length (((vs.length:Int) - (0:Int)).toNat + 1) 0 vs.length (by omega) (by omega) (by omega) (Nat.le_refl _) (fun i _ h=>by omega) (fun i h h'=>by omega)
 unfold f104
 have h4':f202_l3x vs id (vs.length:Int) (0:Int) false false vs es ds (((vs.length:Int) - (0:Int)).toNat + 1) (0:Int) (vs.length:Int) = _:=h4
 rw [h4']
 show (bif (decide ((p:Int) < (vs.length:Int))) then (bif (inR (p:Int) vs.length) then (f199 (at_ tV vs (p:Int)).1 id).bind fun y17=>some (((decide (y17.1 = (0:Int))),()),((vs,es,ds,()),())) else none) else some ((false,()),((vs,es,ds,()),()))) = _
 by_cases hlt:p < vs.length
 ·have e1:decide ((p:Int) < (vs.length:Int)) = true:=by simp; omega
  rw [e1,inRN,dT hlt,cond_true,cond_true,atN tV vs p hlt,f199_eq,Option.bind_some]
  have hge:=h3 p hlt (Nat.le_refl _)
  rw [if_neg (by omega)]
  by_cases he:vs[p].1 = id
  ·rw [if_pos he]
   have:hasV vs id = true:=List.any_eq_true.2 ⟨vs[p],List.getElem_mem _,by simp [he]⟩
   rw [this]
   rfl
  ·rw [if_neg he]
   have:hasV vs id = false:=by
    rw [← Bool.not_eq_true]
    intro h
    obtain ⟨v,hv,e⟩:=List.any_eq_true.1 h
    obtain ⟨i,hi,rfl⟩:=List.getElem_of_mem hv
    have e':vs[i].1 = id:=by simpa using e
    by_cases hip:i < p
    ·have:=h2 i hi hip; omega
    ·by_cases hip2:i = p
     ·subst hip2; exact he e'
     ·have:=List.pairwise_iff_getElem.1 hp p i hlt hi (by omega)
      simp only [kV] at this
      omega
   rw [this]
   rfl
 ·have e1:decide ((p:Int) < (vs.length:Int)) = false:=by simp; omega
  rw [e1,cond_false]
  have:hasV vs id = false:=by
   rw [← Bool.not_eq_true]
   intro h
   obtain ⟨v,hv,e⟩:=List.any_eq_true.1 h
   obtain ⟨i,hi,rfl⟩:=List.getElem_of_mem hv
   have e':vs[i].1 = id:=by simpa using e
   have:=h2 i hi (by omega)
   omega
  rw [this]
end Go.V.G
namespace Go.V.G
open Go.Proofs
def okV (v:Vx):Bool:=decide (0 ≤ v.1) && decide (v.1 ≤ 23) && decide (0 ≤ v.2.1) && decide (v.2.1 ≤ 3)
def okE (e:Ed):Bool:=decide (0 ≤ e.1) && decide (e.1 ≤ 39) && decide (0 ≤ e.2.1) && decide (e.2.1 ≤ 23) && decide (0 ≤ e.2.2.1) && decide (e.2.2.1 ≤ 23) && decide (-1000 ≤ e.2.2.2.2.1) && decide (e.2.2.2.2.1 ≤ 1000) && decide (0 ≤ e.2.2.2.2.2.1) && decide (e.2.2.2.2.2.1 ≤ 1000)
def valid (g:Gr):Bool :=
 asc kV g.1 && asc kE g.2.1 && g.1.all okV && g.2.1.all (fun e=>okE e && hasV g.1 e.2.1 && hasV g.1 e.2.2.1) && decide (g.2.2.1.length ≤ 3) && asc kI g.2.2.1 && g.2.2.1.all (hasV g.1)
theorem f105_eq (l:List Vx) (hl:l.length ≤ 1099511627776):f105 l = some ((!l.all okV,()),()):=by
 have h:=find_loop tV okV (fun k j=>f115_l2_b7000 l (l.length:Int) false k j) (.inl ((),((false,()),(),()),())) (fun i=>.inr (((i:Int),()),((false,()),(),()),())) l (by
  intro k j
  show f115_l2_b7000 l (l.length:Int) false (k + 1) (j:Int) = _
  conv=>lhs; unfold f115_l2_b7000
  by_cases h:j < l.length
  ·have e1:decide ((j:Int) < (l.length:Int)) = true:=by simp; omega
   rw [dif_pos h]
   simp only [e1,cond_true,inRN,dT h,wS j (by omega)]
   rw [atN tV l j h]
   unfold okV
   by_cases h1:0 ≤ l[j].1
   ·by_cases h2:l[j].1 ≤ 23
    ·by_cases h3:0 ≤ l[j].2.1
     ·by_cases h4:l[j].2.1 ≤ 3
      ·simp [h1,h2,h3,h4]
      ·simp [h1,h2,h3,h4]
     ·simp [h1,h2,h3]
    ·simp [h1,h2]
   ·simp [h1]
  ·have e1:decide ((j:Int) < (l.length:Int)) = false:=by simp; omega
   rw [dif_neg h]
   simp only [e1,cond_false])
 have h2:=h l.length (((l.length:Int) - (0:Int)).toNat + 1) 0 (by omega) (by omega)
 rw [List.drop_zero] at h2
 unfold f105
 rcases h2 with ⟨h3,h4⟩ | ⟨h3,i,_,_,h4⟩
 ·have h5:f115_l2_b7000 l (l.length:Int) false (((l.length:Int) - (0:Int)).toNat + 1) (0:Int) = _:=h4
  rw [h5,h3]
  rfl
 ·have h5:f115_l2_b7000 l (l.length:Int) false (((l.length:Int) - (0:Int)).toNat + 1) (0:Int) = _:=h4
  rw [h5,h3]
  show some (((decide ((i:Int) ≥ 0)),()),()) = _
  simp
theorem f125_loop (vs:List Vx) (hl:vs.length ≤ 1099511627776) (ha:asc kV vs = true) (es:List Ed) (ds:List Int) (hd:ds.length ≤ 1099511627776) (k:Nat) (hk:ds.length < k) :
  (ds.all (hasV vs) = true ∧ f125_l2x ds (ds.length:Int) false false true k 0 vs es ds = some (.inl ((),((false,()),(false,true,()),(),()),((vs,es,ds,()),())))) ∨
  (ds.all (hasV vs) = false ∧ ∃ i:Nat,f125_l2x ds (ds.length:Int) false false true k 0 vs es ds = some (.inr (((i:Int),()),((false,()),(false,true,()),(),()),((vs,es,ds,()),())))):=by
 have h:=find_loop tI (hasV vs) (fun k j=>f125_l2x ds (ds.length:Int) false false true k j vs es ds) (.inl ((),((false,()),(false,true,()),(),()),((vs,es,ds,()),()))) (fun i=>.inr (((i:Int),()),((false,()),(false,true,()),(),()),((vs,es,ds,()),()))) ds (by
  intro k j
  show f125_l2x ds (ds.length:Int) false false true (k + 1) (j:Int) vs es ds = _
  conv=>lhs; unfold f125_l2x
  by_cases h:j < ds.length
  ·have e1:decide ((j:Int) < (ds.length:Int)) = true:=by simp; omega
   rw [dif_pos h]
   simp only [e1,cond_true,inRN,dT h,wS j (by omega)]
   have hget:at_ tI ds (j:Int) = ds[j]:=atN tI ds j h
   rw [hget,f104_eq vs hl es ds ha,Option.bind_some]
   cases hh:hasV vs ds[j] with
   | true=>simp
   | false=>simp
  ·have e1:decide ((j:Int) < (ds.length:Int)) = false:=by simp; omega
   rw [dif_neg h]
   simp only [e1,cond_false])
 have h2:=h ds.length k 0 (by omega) hk
 rw [List.drop_zero] at h2
 rcases h2 with ⟨h3,h4⟩ | ⟨h3,i,_,_,h4⟩
 ·exact .inl ⟨h3,h4⟩
 ·exact .inr ⟨h3,i,h4⟩
theorem f108_eq (vs:List Vx) (hl:vs.length ≤ 1099511627776) (ha:asc kV vs = true) (es:List Ed) (ds:List Int) (hd:ds.length ≤ 1099511627776) :
  f108 vs es ds = some ((decide (ds.length ≤ 3) && asc kI ds && ds.all (hasV vs),()),((vs,es,ds,()),())):=by
 unfold f108
 by_cases h3:ds.length ≤ 3
 ·have e1:decide ((ds.length:Int) ≤ 3) = true:=by simp; omega
  rw [dT h3]
  simp only [e1,cond_true,f161_eq ds hd,Option.bind_some,Bool.true_and]
  cases hasc:asc kI ds with
  | false=>rfl
  | true =>
   simp only [cond_true,Bool.true_and]
   rcases f125_loop vs hl ha es ds hd (((ds.length:Int) - (0:Int)).toNat + 1) (by omega) with ⟨h4,h5⟩ | ⟨h4,i,h5⟩
   ·rw [h5,h4]; rfl
   ·rw [h5,h4]
    show some ((!(decide ((i:Int) ≥ 0)),()),((vs,es,ds,()),())) = _
    simp
 ·have e1:decide ((ds.length:Int) ≤ 3) = false:=by simp; omega
  rw [dF h3]
  simp only [e1,cond_false,Bool.false_and]
theorem f119_loop (vs:List Vx) (hl:vs.length ≤ 1099511627776) (ha:asc kV vs = true) (es:List Ed) (ds:List Int) (he:es.length ≤ 1099511627776) (k:Nat) (hk:es.length < k) :
  (es.all (fun e=>okE e && hasV vs e.2.1 && hasV vs e.2.2.1) = true ∧ f119_l2z es (es.length:Int) false false true k 0 vs es ds = some (.inl ((),((false,()),(false,true,()),()),((),(vs,es,ds,()),())))) ∨
  (es.all (fun e=>okE e && hasV vs e.2.1 && hasV vs e.2.2.1) = false ∧ ∃ i:Nat,f119_l2z es (es.length:Int) false false true k 0 vs es ds = some (.inr (((i:Int),()),((false,()),(false,true,()),()),((),(vs,es,ds,()),())))):=by
 have h:=find_loop tE (fun e:Ed=>okE e && hasV vs e.2.1 && hasV vs e.2.2.1) (fun k j=>f119_l2z es (es.length:Int) false false true k j vs es ds) (.inl ((),((false,()),(false,true,()),()),((),(vs,es,ds,()),()))) (fun i=>.inr (((i:Int),()),((false,()),(false,true,()),()),((),(vs,es,ds,()),()))) es (by
  intro k j
  show f119_l2z es (es.length:Int) false false true (k + 1) (j:Int) vs es ds = _
  conv=>lhs; unfold f119_l2z
  by_cases h:j < es.length
  ·have e1:decide ((j:Int) < (es.length:Int)) = true:=by simp; omega
   rw [dif_pos h]
   simp only [e1,cond_true,inRN,dT h,wS j (by omega)]
   have hget:at_ tE es (j:Int) = es[j]:=atN tE es j h
   simp only [hget,f104_eq vs hl es ds ha,Option.bind_some]
   unfold okE
   by_cases h1:0 ≤ es[j].1
   ·by_cases h2:es[j].1 ≤ 39
    ·by_cases h3:0 ≤ es[j].2.1
     ·by_cases h4:es[j].2.1 ≤ 23
      ·by_cases h5:0 ≤ es[j].2.2.1
       ·by_cases h6:es[j].2.2.1 ≤ 23
        ·by_cases h7:-1000 ≤ es[j].2.2.2.2.1
         ·by_cases h8:es[j].2.2.2.2.1 ≤ 1000
          ·by_cases h9:0 ≤ es[j].2.2.2.2.2.1
           ·by_cases h10:es[j].2.2.2.2.2.1 ≤ 1000
            ·cases hh:hasV vs es[j].2.1 with
             | false=>simp [h1,h2,h3,h4,h5,h6,h7,h8,h9,h10,hh]
             | true =>
              cases hh2:hasV vs es[j].2.2.1 with
              | false=>simp [h1,h2,h3,h4,h5,h6,h7,h8,h9,h10,hh,hh2]
              | true=>simp [h1,h2,h3,h4,h5,h6,h7,h8,h9,h10,hh,hh2]
            ·simp [h1,h2,h3,h4,h5,h6,h7,h8,h9,h10]
           ·simp [h1,h2,h3,h4,h5,h6,h7,h8,h9]
          ·simp [h1,h2,h3,h4,h5,h6,h7,h8]
         ·simp [h1,h2,h3,h4,h5,h6,h7]
        ·simp [h1,h2,h3,h4,h5,h6]
       ·simp [h1,h2,h3,h4,h5]
      ·simp [h1,h2,h3,h4]
     ·simp [h1,h2,h3]
    ·simp [h1,h2]
   ·simp [h1]
  ·have e1:decide ((j:Int) < (es.length:Int)) = false:=by simp; omega
   rw [dif_neg h]
   simp only [e1,cond_false])
 have h2:=h es.length k 0 (by omega) hk
 rw [List.drop_zero] at h2
 rcases h2 with ⟨h3,h4⟩ | ⟨h3,i,_,_,h4⟩
 ·exact .inl ⟨h3,h4⟩
 ·exact .inr ⟨h3,i,h4⟩
theorem f46_eq (g:Gr) (h1:g.1.length ≤ 1099511627776) (h2:g.2.1.length ≤ 1099511627776) (h3:g.2.2.1.length ≤ 1099511627776):f46 g = some (valid g,()):=by
 obtain ⟨vs,es,ds,u⟩:=g
 simp only at h1 h2 h3
 unfold f46 valid
 simp only [f98_eq vs h1,Option.bind_some]
 cases ha:asc kV vs with
 | false=>rfl
 | true =>
  simp only [Bool.not_true,cond_false,f100_eq es h2,Option.bind_some,Bool.true_and]
  cases he:asc kE es with
  | false=>rfl
  | true =>
   simp only [Bool.not_true,cond_false,f105_eq vs h1,Option.bind_some,Bool.true_and]
   cases hv:vs.all okV with
   | false=>rfl
   | true =>
    simp only [Bool.not_true,Bool.not_false,cond_true,Bool.true_and]
    rcases f119_loop vs h1 ha es ds h2 (((es.length:Int) - (0:Int)).toNat + 1) (by omega) with ⟨h4,h5⟩ | ⟨h4,i,h5⟩
    ·rw [h5,h4]
     show ((f108 vs es ds).bind fun y33=>some (y33.1.1,())) = _
     rw [f108_eq vs h1 ha es ds h3]
     rfl
    ·rw [h5,h4]
     have e:decide ((i:Int) ≥ 0) = true:=by simp
     show (bif true then (bif (!(decide ((i:Int) ≥ 0))) then ((f108 vs es ds).bind fun y33=>some (y33.1.1,())) else some (false,())) else some (false,())) = some (false,())
     rw [e]
     rfl
end Go.V.G
namespace Go.V.G
open Go.Proofs
section
variable {R:Type}
theorem idx_loop (n:Nat) (ok:Nat → Bool) (F:Nat → Int → Option R) (yes no:R)
  (hF:∀ k (j:Nat),F (k + 1) (j:Int) = if j < n then (if ok j = true then F k ((j + 1:Nat):Int) else some no) else some yes) :
  ∀ (m k j:Nat),n - j ≤ m → m < k → ((∀ i,j ≤ i → i < n → ok i = true) ∧ F k (j:Int) = some yes) ∨ ((∃ i,j ≤ i ∧ i < n ∧ ok i = false) ∧ F k (j:Int) = some no):=by
 intro m
 induction m with
 | zero =>
  intro k j h1 h2
  obtain ⟨k,rfl⟩:∃ q,k = q + 1:=⟨k - 1,by omega⟩
  rw [hF k j,if_neg (by omega)]
  exact .inl ⟨fun i h3 h4=>by omega,rfl⟩
 | succ m ih =>
  intro k j h1 h2
  obtain ⟨k,rfl⟩:∃ q,k = q + 1:=⟨k - 1,by omega⟩
  rw [hF k j]
  by_cases h:j < n
  ·rw [if_pos h]
   cases hok:ok j with
   | true =>
    simp only [if_true]
    rcases ih k (j + 1) (by omega) (by omega) with ⟨h3,h4⟩ | ⟨⟨i,h3,h4,h5⟩,h6⟩
    ·refine .inl ⟨fun i h5 h6=>?_,h4⟩
     by_cases hij:i = j
     ·rw [hij]; exact hok
     ·exact h3 i (by omega) h6
    ·exact .inr ⟨⟨i,by omega,h4,h5⟩,h6⟩
   | false =>
    simp only [Bool.false_eq_true,if_false]
    exact .inr ⟨⟨j,Nat.le_refl _,h,hok⟩,trivial⟩
  ·rw [if_neg h]
   exact .inl ⟨fun i h3 h4=>by omega,rfl⟩
end
theorem asc_adj {α:Type} (f:α → Int):∀ {l:List α},asc f l = true ↔ ∀ i (h:i + 1 < l.length),f (l[i]'(by omega)) < f l[i + 1]
 | []=>⟨fun _ i h=>by simp at h,fun _=>rfl⟩
 | [a]=>⟨fun _ i h=>by simp at h,fun _=>rfl⟩
 | a :: b :: l=>by
  rw [asc_two,Bool.and_eq_true,decide_eq_true_eq,asc_adj (l:=b :: l)]
  constructor
  ·rintro ⟨h1,h2⟩ i h
   cases i with
   | zero=>exact h1
   | succ i=>exact h2 i (by simp at h ⊢; omega)
  ·intro h
   exact ⟨h 0 (by simp),fun i hi=>h (i + 1) (by simp at hi ⊢; omega)⟩
def okAt {α:Type} (p:α → Bool) (f:α → Int) (l:List α) (j:Nat):Bool :=
 match l[j]? with
 | some x=>p x && (match j with
  | 0=>true
  | i + 1=>match l[i]? with
   | some y=>decide (f y < f x)
   | none=>true)
 | none=>true
theorem okAt_all {α:Type} (p:α → Bool) (f:α → Int) (l:List α):(∀ i,0 ≤ i → i < l.length → okAt p f l i = true) ↔ (l.all p && asc f l) = true:=by
 rw [Bool.and_eq_true,List.all_eq_true,asc_adj]
 constructor
 ·intro h
  refine ⟨fun x hx=>?_,fun i hi=>?_⟩
  ·obtain ⟨i,hi,rfl⟩:=List.getElem_of_mem hx
   have:=h i (Nat.zero_le _) hi
   unfold okAt at this
   rw [List.getElem?_eq_getElem hi] at this
   simp only [Bool.and_eq_true] at this
   exact this.1
  ·have:=h (i + 1) (Nat.zero_le _) hi
   unfold okAt at this
   rw [List.getElem?_eq_getElem hi] at this
   simp only [List.getElem?_eq_getElem (show i < l.length by omega),Bool.and_eq_true,decide_eq_true_eq] at this
   exact this.2
 ·rintro ⟨h1,h2⟩ i _ hi
  unfold okAt
  rw [List.getElem?_eq_getElem hi]
  simp only [Bool.and_eq_true]
  refine ⟨h1 _ (List.getElem_mem _),?_⟩
  cases i with
  | zero=>rfl
  | succ i =>
   simp only [List.getElem?_eq_getElem (show i < l.length by omega),decide_eq_true_eq]
   exact h2 i hi
theorem f171_eq (a lo hi:Int):f171 a lo hi = some (decide (lo ≤ a) && decide (a ≤ hi),()):=by
 unfold f171
 by_cases h1:lo ≤ a
 ·have e:decide (a ≥ lo) = true:=by simp; omega
  rw [e]
  rfl
 ·have e:decide (a ≥ lo) = false:=by simp; omega
  rw [e]
  rfl
theorem f111_eq (v:Vx):f111 v = some (okV v,()):=by
 unfold f111 okV
 simp only [f171_eq,Option.bind_some]
 cases decide (0 ≤ v.1) && decide (v.1 ≤ 23) <;> simp
theorem f112_eq (e:Ed):f112 e = some (okE e,()):=by
 have h:okE e = ((decide (0 ≤ e.1) && decide (e.1 ≤ 39)) && ((decide (0 ≤ e.2.1) && decide (e.2.1 ≤ 23)) && ((decide (0 ≤ e.2.2.1) && decide (e.2.2.1 ≤ 23)) && ((decide (-1000 ≤ e.2.2.2.2.1) && decide (e.2.2.2.2.1 ≤ 1000)) && (decide (0 ≤ e.2.2.2.2.2.1) && decide (e.2.2.2.2.2.1 ≤ 1000)))))):=by
  unfold okE
  simp only [Bool.and_assoc]
 rw [h]
 unfold f112
 simp only [f171_eq,Option.bind_some]
 cases decide (0 ≤ e.1) && decide (e.1 ≤ 39)
 ·rfl
 ·cases decide (0 ≤ e.2.1) && decide (e.2.1 ≤ 23)
  ·rfl
  ·cases decide (0 ≤ e.2.2.1) && decide (e.2.2.1 ≤ 23)
   ·rfl
   ·cases decide (-1000 ≤ e.2.2.2.2.1) && decide (e.2.2.2.2.1 ≤ 1000) <;> rfl
theorem okAt_zero {α:Type} (p:α → Bool) (f:α → Int) (l:List α) (h:0 < l.length):okAt p f l 0 = p l[0]:=by
 unfold okAt
 rw [List.getElem?_eq_getElem h]
 simp
theorem okAt_succ {α:Type} (p:α → Bool) (f:α → Int) (l:List α) (i:Nat) (h:i + 1 < l.length):okAt p f l (i + 1) = (p l[i + 1] && decide (f (l[i]'(by omega)) < f l[i + 1])):=by
 unfold okAt
 rw [List.getElem?_eq_getElem h]
 simp only [List.getElem?_eq_getElem (show i < l.length by omega)]
theorem f55_neg (vs:List Vx) (hl:vs.length ≤ 1099511627776) (es:List Ed) (ds:List Int) (u:Unit) (id:Int):∃ q:Int,f55 (vs,es,ds,u) id = some (q,()) ∧ decide (q < 0) = !hasV vs id:=by
 have h:=find_loop tV (fun v:Vx=>!decide (v.1 = id)) (fun k j=>f55_l2 id vs es ds k j) (.inl ((),(),())) (fun i=>.inr (((i:Int),()),(),())) vs (by
  intro k j
  show f55_l2 id vs es ds (k + 1) (j:Int) = _
  conv=>lhs; unfold f55_l2
  by_cases h:j < vs.length
  ·have e1:decide ((j:Int) < (vs.length:Int)) = true:=by simp; omega
   rw [dif_pos h]
   simp only [e1,cond_true,inRN,dT h,wS j (by omega)]
   rw [atN tV vs j h]
   by_cases hc:vs[j].1 = id
   ·simp [hc]
   ·simp [hc]
  ·have e1:decide ((j:Int) < (vs.length:Int)) = false:=by simp; omega
   rw [dif_neg h]
   simp only [e1,cond_false])
 have h2:=h vs.length (((vs.length:Int) - (0:Int)).toNat + 1) 0 (by omega) (by omega)
 rw [List.drop_zero] at h2
 have hh:hasV vs id = !(vs.all fun v=>!decide (v.1 = id)):=by
  unfold hasV
  rw [List.any_eq_not_all_not]
 unfold f55
 rcases h2 with ⟨h3,h4⟩ | ⟨h3,i,_,_,h4⟩
 ·have h5:f55_l2 id vs es ds (((vs.length:Int) - (0:Int)).toNat + 1) (0:Int) = _:=h4
  refine ⟨-1,?_,by rw [hh,h3]; rfl⟩
  show (f55_l2 id vs es ds (((vs.length:Int) - (0:Int)).toNat + 1) (0:Int)).bind _ = _
  rw [h5]
  rfl
 ·have h5:f55_l2 id vs es ds (((vs.length:Int) - (0:Int)).toNat + 1) (0:Int) = _:=h4
  refine ⟨(i:Int),?_,by rw [hh,h3]; simp⟩
  show (f55_l2 id vs es ds (((vs.length:Int) - (0:Int)).toNat + 1) (0:Int)).bind _ = _
  rw [h5]
  rfl
theorem r48_2 (vs:List Vx) (hl:vs.length ≤ 1099511627776) (es:List Ed) (ds:List Int) (k:Nat) (hk:vs.length < k) :
  ((vs.all okV && asc kV vs) = true ∧ f48_l2 vs es ds k 0 = some (.inl ((),(),((vs,es,ds,()),())))) ∨ ((vs.all okV && asc kV vs) = false ∧ f48_l2 vs es ds k 0 = some (.inr ((false,()),(),()))):=by
 have h:=idx_loop vs.length (okAt okV kV vs) (fun k j=>f48_l2 vs es ds k j) (.inl ((),(),((vs,es,ds,()),()))) (.inr ((false,()),(),())) (by
  intro k j
  show f48_l2 vs es ds (k + 1) (j:Int) = _
  conv=>lhs; unfold f48_l2
  by_cases h:j < vs.length
  ·have e1:decide ((j:Int) < (vs.length:Int)) = true:=by simp; omega
   have hget:∀ j (h:j < vs.length),at_ tV vs (j:Int) = vs[j]:=fun j h=>atN tV vs j h
   rw [if_pos h]
   simp only [e1,cond_true,inRN,dT h,wS j (by omega),hget j h,f111_eq,Option.bind_some]
   cases j with
   | zero =>
    rw [okAt_zero okV kV vs h]
    cases okV vs[0] <;> simp
   | succ i =>
    rw [okAt_succ okV kV vs i h]
    have e2:decide (((i + 1:Nat):Int) > 0) = true:=by simp <;> omega
    simp only [e2,pred_wrap (i + 1) (by omega) (by omega),Nat.add_sub_cancel,dT (show i < vs.length by omega),hget i (by omega),cond_true]
    have hin:inR (i:Int) vs.length = true:=by rw [inRN,dT (show i < vs.length by omega)]
    cases okV vs[i + 1] with
    | false=>simp
    | true =>
     by_cases hc:vs[i + 1].1 ≤ vs[i].1
     ·have hd:decide (kV (vs[i]'(by omega)) < kV vs[i + 1]) = false:=by simp [kV]; omega
      rw [hin,dT hc,hd]
      rfl
     ·have hd:decide (kV (vs[i]'(by omega)) < kV vs[i + 1]) = true:=by simp [kV]; omega
      rw [hin,dF hc,hd]
      rfl
  ·have e1:decide ((j:Int) < (vs.length:Int)) = false:=by simp; omega
   rw [if_neg h]
   simp only [e1,cond_false])
 rcases h vs.length k 0 (by omega) hk with ⟨h1,h2⟩ | ⟨⟨i,h1,h2,h3⟩,h4⟩
 ·exact .inl ⟨(okAt_all okV kV vs).1 h1,h2⟩
 ·refine .inr ⟨?_,h4⟩
  rw [← Bool.not_eq_true]
  intro hh
  have:=(okAt_all okV kV vs).2 hh i h1 h2
  rw [h3] at this
  cases this
def okEv (vs:List Vx) (e:Ed):Bool:=okE e && hasV vs e.2.1 && hasV vs e.2.2.1
theorem r48_7 (vs:List Vx) (hl:vs.length ≤ 1099511627776) (es:List Ed) (he:es.length ≤ 1099511627776) (ds:List Int) (k:Nat) (hk:es.length < k) :
  ((es.all (okEv vs) && asc kE es) = true ∧ f48_l7 vs es ds k 0 = some (.inl ((),(),((vs,es,ds,()),())))) ∨ ((es.all (okEv vs) && asc kE es) = false ∧ f48_l7 vs es ds k 0 = some (.inr ((false,()),(),()))):=by
 have h:=idx_loop es.length (okAt (okEv vs) kE es) (fun k j=>f48_l7 vs es ds k j) (.inl ((),(),((vs,es,ds,()),()))) (.inr ((false,()),(),())) (by
  intro k j
  show f48_l7 vs es ds (k + 1) (j:Int) = _
  conv=>lhs; unfold f48_l7
  by_cases h:j < es.length
  ·have e1:decide ((j:Int) < (es.length:Int)) = true:=by simp; omega
   have hget:∀ j (h:j < es.length),at_ tE es (j:Int) = es[j]:=fun j h=>atN tE es j h
   rw [if_pos h]
   simp only [e1,cond_true,inRN,dT h,wS j (by omega),hget j h,f112_eq,Option.bind_some]
   obtain ⟨q1,g1,g2⟩:=f55_neg vs hl es ds () es[j].2.1
   obtain ⟨q2,g3,g4⟩:=f55_neg vs hl es ds () es[j].2.2.1
   simp only [g1,g3,Option.bind_some,g2,g4]
   cases j with
   | zero =>
    rw [okAt_zero (okEv vs) kE es h]
    unfold okEv
    cases okE es[0] <;> cases hasV vs es[0].2.1 <;> cases hasV vs es[0].2.2.1 <;> rfl
   | succ i =>
    rw [okAt_succ (okEv vs) kE es i h]
    have e2:decide (((i + 1:Nat):Int) > 0) = true:=by simp <;> omega
    have hin:inR (i:Int) es.length = true:=by rw [inRN,dT (show i < es.length by omega)]
    simp only [e2,pred_wrap (i + 1) (by omega) (by omega),Nat.add_sub_cancel,hin,hget i (by omega),cond_true]
    unfold okEv
    by_cases hc:es[i + 1].1 ≤ es[i].1
    ·have hd:decide (kE (es[i]'(by omega)) < kE es[i + 1]) = false:=by simp [kE]; omega
     rw [dT hc,hd]
     cases okE es[i + 1] <;> cases hasV vs es[i + 1].2.1 <;> cases hasV vs es[i + 1].2.2.1 <;> rfl
    ·have hd:decide (kE (es[i]'(by omega)) < kE es[i + 1]) = true:=by simp [kE]; omega
     rw [dF hc,hd]
     cases okE es[i + 1] <;> cases hasV vs es[i + 1].2.1 <;> cases hasV vs es[i + 1].2.2.1 <;> rfl
  ·have e1:decide ((j:Int) < (es.length:Int)) = false:=by simp; omega
   rw [if_neg h]
   simp only [e1,cond_false])
 rcases h es.length k 0 (by omega) hk with ⟨h1,h2⟩ | ⟨⟨i,h1,h2,h3⟩,h4⟩
 ·exact .inl ⟨(okAt_all (okEv vs) kE es).1 h1,h2⟩
 ·refine .inr ⟨?_,h4⟩
  rw [← Bool.not_eq_true]
  intro hh
  have:=(okAt_all (okEv vs) kE es).2 hh i h1 h2
  rw [h3] at this
  cases this
theorem r48_13 (vs:List Vx) (hl:vs.length ≤ 1099511627776) (es:List Ed) (ds:List Int) (hd:ds.length ≤ 1099511627776) (k:Nat) (hk:ds.length < k) :
  ((ds.all (hasV vs) && asc kI ds) = true ∧ f48_l13 vs es ds k 0 = some (.inl ((),(),((vs,es,ds,()),())))) ∨ ((ds.all (hasV vs) && asc kI ds) = false ∧ f48_l13 vs es ds k 0 = some (.inr ((false,()),(),()))):=by
 have h:=idx_loop ds.length (okAt (hasV vs) kI ds) (fun k j=>f48_l13 vs es ds k j) (.inl ((),(),((vs,es,ds,()),()))) (.inr ((false,()),(),())) (by
  intro k j
  show f48_l13 vs es ds (k + 1) (j:Int) = _
  conv=>lhs; unfold f48_l13
  by_cases h:j < ds.length
  ·have e1:decide ((j:Int) < (ds.length:Int)) = true:=by simp; omega
   have hget:∀ j (h:j < ds.length),at_ tI ds (j:Int) = ds[j]:=fun j h=>atN tI ds j h
   rw [if_pos h]
   obtain ⟨q1,g1,g2⟩:=f55_neg vs hl es ds () ds[j]
   simp only [e1,cond_true,inRN,dT h,wS j (by omega),hget j h,g1,Option.bind_some,g2]
   cases j with
   | zero =>
    rw [okAt_zero (hasV vs) kI ds h]
    cases hasV vs ds[0] <;> rfl
   | succ i =>
    rw [okAt_succ (hasV vs) kI ds i h]
    have e2:decide (((i + 1:Nat):Int) > 0) = true:=by simp <;> omega
    have hin:inR (i:Int) ds.length = true:=by rw [inRN,dT (show i < ds.length by omega)]
    simp only [e2,pred_wrap (i + 1) (by omega) (by omega),Nat.add_sub_cancel,hin,hget i (by omega),cond_true]
    by_cases hc:ds[i + 1] ≤ ds[i]
    ·have hd:decide (kI (ds[i]'(by omega)) < kI ds[i + 1]) = false:=by simp [kI]; omega
     rw [dT hc,hd]
     cases hasV vs ds[i + 1] <;> rfl
    ·have hd:decide (kI (ds[i]'(by omega)) < kI ds[i + 1]) = true:=by simp [kI]; omega
     rw [dF hc,hd]
     cases hasV vs ds[i + 1] <;> rfl
  ·have e1:decide ((j:Int) < (ds.length:Int)) = false:=by simp; omega
   rw [if_neg h]
   simp only [e1,cond_false])
 rcases h ds.length k 0 (by omega) hk with ⟨h1,h2⟩ | ⟨⟨i,h1,h2,h3⟩,h4⟩
 ·exact .inl ⟨(okAt_all (hasV vs) kI ds).1 h1,h2⟩
 ·refine .inr ⟨?_,h4⟩
  rw [← Bool.not_eq_true]
  intro hh
  have:=(okAt_all (hasV vs) kI ds).2 hh i h1 h2
  rw [h3] at this
  cases this
theorem f48_eq (g:Gr) (h1:g.1.length ≤ 1099511627776) (h2:g.2.1.length ≤ 1099511627776) (h3:g.2.2.1.length ≤ 1099511627776):f48 g = some (valid g,()):=by
 obtain ⟨vs,es,ds,u⟩:=g
 simp only at h1 h2 h3
 have hv:valid (vs,es,ds,u) = ((vs.all okV && asc kV vs) && ((es.all (okEv vs) && asc kE es) && ((ds.all (hasV vs) && asc kI ds) && decide (ds.length ≤ 3)))):=by
  unfold valid okEv
  simp only
  cases asc kV vs <;> cases asc kE es <;> cases vs.all okV <;> cases es.all (fun e=>okE e && hasV vs e.2.1 && hasV vs e.2.2.1) <;> cases decide (ds.length ≤ 3) <;> cases asc kI ds <;> cases ds.all (hasV vs) <;> rfl
 rw [hv]
 unfold f48
 simp only
 rcases r48_2 vs h1 es ds (((vs.length:Int) - (0:Int)).toNat + 1) (by omega) with ⟨a1,a2⟩ | ⟨a1,a2⟩
 ·rw [a1,a2]
  show (f48_l7 vs es ds (((es.length:Int) - (0:Int)).toNat + 1) (0:Int)).bind _ = _
  rcases r48_7 vs h1 es h2 ds (((es.length:Int) - (0:Int)).toNat + 1) (by omega) with ⟨b1,b2⟩ | ⟨b1,b2⟩
  ·rw [b1,b2]
   show (f48_l13 vs es ds (((ds.length:Int) - (0:Int)).toNat + 1) (0:Int)).bind _ = _
   rcases r48_13 vs h1 es ds h3 (((ds.length:Int) - (0:Int)).toNat + 1) (by omega) with ⟨c1,c2⟩ | ⟨c1,c2⟩
   ·rw [c1,c2]
    show some (decide ((ds.length:Int) ≤ 3),()) = _
    have:decide ((ds.length:Int) ≤ 3) = decide (ds.length ≤ 3):=by
     by_cases h:ds.length ≤ 3
     ·rw [dT h]; simp; omega
     ·rw [dF h]; simp; omega
    rw [this]
    simp
   ·rw [c1,c2]
    rfl
  ·rw [b1,b2]
   rfl
 ·rw [a1,a2]
  rfl
end Go.V.G
namespace Go.V.G
open Go.Proofs
def encs:List Int → ByteArray
 | []=>⟨#[]⟩
 | n :: l=>enc n ++ encs l
def smallI (n:Int):Prop:=-maxI ≤ n ∧ n ≤ maxI
theorem intsGo_eq:∀ (l:List Int),(∀ n ∈ l,smallI n) → intsGo l = some (encs l)
 | [],_=>rfl
 | n :: l,h=>by
  have hn:=h n (List.mem_cons_self ..)
  have hsz:=enc_size hn.1 hn.2
  simp only [intsGo,f168_eq hn.1 hn.2,Option.bind_some,dT (show (enc n).size ≤ 100 by omega),cond_true,intsGo_eq l (fun m hm=>h m (List.mem_cons_of_mem _ hm))]
  rfl
theorem f110_eq (l:List Int) (h:∀ n ∈ l,smallI n) (hl:l.length ≤ 1000):f110 l = some (encs l,()):=by
 unfold f110
 rw [dT hl,cond_true,intsGo_eq l h,Option.bind_some]
theorem nbytes_encs:∀ (l:List Int),nbytes (encs l) = l.flatMap fun n=>grpN (zig n)
 | []=>rfl
 | n :: l=>by
  simp only [encs,nbytes_app,nbytes_enc,nbytes_encs l,List.flatMap_cons]
theorem encs_app:∀ (a b:List Int),encs (a ++ b) = encs a ++ encs b
 | [],b=>by simp [encs]; rfl
 | n :: a,b=>by
  simp only [List.cons_append,encs,encs_app a b]
  exact nbytes_inj (by simp only [nbytes_app,List.append_assoc])
theorem encs_size:∀ (l:List Int),(∀ n ∈ l,smallI n) → (encs l).size ≤ 9 * l.length
 | [],_=>by simp [encs]; rfl
 | n :: l,h=>by
  have hn:=h n (List.mem_cons_self ..)
  have h1:=enc_size hn.1 hn.2
  have h2:=encs_size l (fun m hm=>h m (List.mem_cons_of_mem _ hm))
  have h3:(enc n ++ encs l).size = (enc n).size + (encs l).size:=by simp
  simp only [encs,List.length_cons,h3]
  omega
def six (e:Ed):List Int:=[e.1,e.2.1,e.2.2.1,if e.2.2.2.1 = true then 1 else 0,e.2.2.2.2.1,e.2.2.2.2.2.1]
def pageN (v:Vx) (es:List Ed):List Int:=v.1 :: v.2.1 :: (es.length:Int) :: es.flatMap six
def atE (es:List Ed) (id:Int):List Ed:=es.filter fun e=>decide (e.2.1 = id) || decide (e.2.2.1 = id)
section
variable {R A:Type}
theorem fold_loop (T:Ty) (step:A → T.den → A) (F:Nat → Int → A → Option R) (fin:A → R) (I:Nat → A → Prop) (l:List T.den)
  (hF:∀ k (j:Nat) acc,I j acc → F (k + 1) (j:Int) acc = if h:j < l.length then F k ((j + 1:Nat):Int) (step acc l[j]) else some (fin acc))
  (hI:∀ j acc (h:j < l.length),I j acc → I (j + 1) (step acc l[j])) :
  ∀ (m k j:Nat) (acc:A),l.length - j ≤ m → m < k → I j acc → F k (j:Int) acc = some (fin ((l.drop j).foldl step acc)):=by
 intro m
 induction m with
 | zero =>
  intro k j acc h1 h2 h3
  obtain ⟨k,rfl⟩:∃ q,k = q + 1:=⟨k - 1,by omega⟩
  rw [hF k j acc h3,dif_neg (by omega),List.drop_of_length_le (by omega)]
  rfl
 | succ m ih =>
  intro k j acc h1 h2 h3
  obtain ⟨k,rfl⟩:∃ q,k = q + 1:=⟨k - 1,by omega⟩
  rw [hF k j acc h3]
  by_cases h:j < l.length
  ·rw [dif_pos h,ih k (j + 1) _ (by omega) (by omega) (hI j acc h h3),List.drop_eq_getElem_cons h]
   rfl
  ·rw [dif_neg h,List.drop_of_length_le (by omega)]
   rfl
end
def isAt (id:Int) (e:Ed):Bool:=decide (e.2.1 = id) || decide (e.2.2.1 = id)
theorem fold_filter (id:Int):∀ (l acc:List Ed),l.foldl (fun acc e=>if isAt id e = true then acc ++ [e] else acc) acc = acc ++ atE l id
 | [],acc=>by simp [atE]
 | e :: l,acc=>by
  have hf:atE (e :: l) id = if isAt id e = true then e :: atE l id else atE l id:=by
   unfold atE isAt
   rw [List.filter_cons]
  rw [List.foldl_cons,fold_filter id l,hf]
  split <;> simp
theorem f79_eq (g:Gr) (h:g.2.1.length ≤ 1000000) (id:Int):f79 g id = some (atE g.2.1 id,()):=by
 obtain ⟨vs,es,ds,u⟩:=g
 simp only at h
 have hl:=fold_loop tE (fun (acc:List Ed) (e:Ed)=>if isAt id e = true then acc ++ [e] else acc) (fun k j acc=>f79_l2 id es (es.length:Int) k j acc) (fun r=>((),(),(r,()))) (fun j acc=>acc.length ≤ j) es (by
  intro k j acc hI
  show f79_l2 id es (es.length:Int) (k + 1) (j:Int) acc = _
  conv=>lhs; unfold f79_l2
  by_cases hj:j < es.length
  ·have e1:decide ((j:Int) < (es.length:Int)) = true:=by simp; omega
   have hget:at_ tE es (j:Int) = es[j]:=atN tE es j hj
   have hap:∀ e:Ed,decide (acc.length + ([e]:List Ed).length ≤ appLim) = true:=fun e=>by simp [appLim]; omega
   rw [dif_pos hj]
   simp only [e1,cond_true,inRN,dT hj,wS j (by omega),hget,hap]
   unfold isAt
   by_cases h1:es[j].2.1 = id
   ·simp [h1]
   ·by_cases h2:es[j].2.2.1 = id
    ·simp [h1,h2]
    ·simp [h1,h2]
  ·have e1:decide ((j:Int) < (es.length:Int)) = false:=by simp; omega
   rw [dif_neg hj]
   simp only [e1,cond_false]) (by
  intro j acc hj hI
  show (if isAt id es[j] = true then acc ++ [es[j]] else acc).length ≤ j + 1
  split
  ·simp; omega
  ·omega)
 have h2:=hl es.length (((es.length:Int) - (0:Int)).toNat + 1) 0 [] (by omega) (by omega) (by simp)
 rw [List.drop_zero,fold_filter] at h2
 unfold f79
 have h3:f79_l2 id es (es.length:Int) (((es.length:Int) - (0:Int)).toNat + 1) (0:Int) [] = _:=h2
 show ((f79_l2 id es (es.length:Int) (((es.length:Int) - (0:Int)).toNat + 1) (0:Int) []).bind fun o3=>some (o3.2.2.1,())) = _
 rw [h3,List.nil_append]
 rfl
theorem catOk_small (a b:ByteArray) (h:a.size + b.size ≤ 1000000):catOk a b = true:=by
 unfold catOk
 simp
 omega
def smallE (e:Ed):Prop:=∀ n ∈ six e,smallI n
theorem okE_small {e:Ed} (h:okE e = true):smallE e:=by
 unfold okE at h
 simp only [Bool.and_eq_true,decide_eq_true_eq] at h
 intro n hn
 unfold six at hn
 simp only [List.mem_cons,List.not_mem_nil,or_false] at hn
 unfold smallI maxI
 rcases hn with rfl | rfl | rfl | rfl | rfl | rfl
 ·omega
 ·omega
 ·omega
 ·split <;> omega
 ·omega
 ·omega
theorem text_loop (es:List Ed) (hl:es.length ≤ 1000) (he:∀ e ∈ es,smallE e) (s0:ByteArray) (hs:s0.size ≤ 1000) (k:Nat) (hk:es.length < k) :
  f54_l4 es (es.length:Int) k s0 0 = some (((s0 ++ encs (es.flatMap six),()),(),())):=by
 have hl:=fold_loop tE (fun (acc:ByteArray) (e:Ed)=>acc ++ encs (six e)) (fun k j acc=>f54_l4 es (es.length:Int) k acc j) (fun r=>((r,()),(),())) (fun j acc=>acc.size ≤ 1000 + 54 * j) es (by
  intro k j acc hI
  show f54_l4 es (es.length:Int) (k + 1) acc (j:Int) = _
  conv=>lhs; unfold f54_l4
  by_cases hj:j < es.length
  ·have e1:decide ((j:Int) < (es.length:Int)) = true:=by simp; omega
   have hget:at_ tE es (j:Int) = es[j]:=atN tE es j hj
   have hsm:∀ n ∈ six es[j],smallI n:=he _ (List.getElem_mem hj)
   have hsz:=encs_size (six es[j]) hsm
   have hc:catOk acc (encs (six es[j])) = true:=catOk_small _ _ (by unfold six at hsz ⊢; simp at hsz ⊢; omega)
   rw [dif_pos hj]
   simp only [e1,cond_true,inRN,dT hj,wS j (by omega),hget]
   cases hb:es[j].2.2.2.1 with
   | true =>
    have h6:six es[j] = [es[j].1,es[j].2.1,es[j].2.2.1,1,es[j].2.2.2.2.1,es[j].2.2.2.2.2.1]:=by unfold six; rw [hb]; rfl
    rw [h6] at hsm hc ⊢
    simp only [cond_true,f110_eq _ hsm (by simp),Option.bind_some,hc]
   | false =>
    have h6:six es[j] = [es[j].1,es[j].2.1,es[j].2.2.1,0,es[j].2.2.2.2.1,es[j].2.2.2.2.2.1]:=by unfold six; rw [hb]; rfl
    rw [h6] at hsm hc ⊢
    simp only [cond_false,f110_eq _ hsm (by simp),Option.bind_some,hc,cond_true]
  ·have e1:decide ((j:Int) < (es.length:Int)) = false:=by simp; omega
   rw [dif_neg hj]
   simp only [e1,cond_false]) (by
  intro j acc hj hI
  have hsz:=encs_size (six es[j]) (he _ (List.getElem_mem hj))
  show (acc ++ encs (six es[j])).size ≤ _
  have h3:(acc ++ encs (six es[j])).size = acc.size + (encs (six es[j])).size:=by simp
  have h4:(six es[j]).length = 6:=rfl
  omega)
 have h2:=hl es.length k 0 s0 (by omega) hk (by omega)
 rw [List.drop_zero] at h2
 have hf:∀ (l:List Ed) (acc:ByteArray),l.foldl (fun acc e=>acc ++ encs (six e)) acc = acc ++ encs (l.flatMap six):=by
  intro l
  induction l with
  | nil=>intro acc; simp [encs]; exact nbytes_inj (by rw [nbytes_app]; simp [nbytes])
  | cons e l ih =>
   intro acc
   rw [List.foldl_cons,ih,List.flatMap_cons,encs_app]
   exact nbytes_inj (by simp only [nbytes_app,List.append_assoc])
 rw [hf] at h2
 exact h2
theorem atE_len (es:List Ed) (id:Int):(atE es id).length ≤ es.length:=List.length_filter_le _ _
theorem f54_eq (g:Gr) (v:Vx) (hl:g.2.1.length ≤ 1000) (he:∀ e ∈ g.2.1,smallE e) (hv:smallI v.1 ∧ smallI v.2.1):f54 g v = some (encs (pageN v (atE g.2.1 v.1)),()):=by
 have hlen:=atE_len g.2.1 v.1
 have hn:smallI ((atE g.2.1 v.1).length:Int):=by unfold smallI maxI; omega
 have hs3:∀ n ∈ [v.1,v.2.1,((atE g.2.1 v.1).length:Int)],smallI n:=by
  intro n hn'
  simp only [List.mem_cons,List.not_mem_nil,or_false] at hn'
  rcases hn' with rfl | rfl | rfl
  ·exact hv.1
  ·exact hv.2
  ·exact hn
 have hsz:=encs_size _ hs3
 have hloop:=text_loop (atE g.2.1 v.1) (by omega) (fun e h=>he e (List.mem_filter.1 h).1) (encs [v.1,v.2.1,((atE g.2.1 v.1).length:Int)]) (by simp at hsz ⊢; omega) ((((atE g.2.1 v.1).length:Int) - (0:Int)).toNat + 1) (by omega)
 unfold f54
 simp only [f79_eq g (by omega) v.1,Option.bind_some,f110_eq _ hs3 (by simp)]
 rw [hloop]
 show some (encs [v.1,v.2.1,((atE g.2.1 v.1).length:Int)] ++ encs ((atE g.2.1 v.1).flatMap six),()) = _
 rw [← encs_app]
 rfl
end Go.V.G
namespace Go.V.G
open Go.Proofs
theorem fold_encs:∀ (l:List Int) (acc:ByteArray),l.foldl (fun acc n=>acc ++ enc n) acc = acc ++ encs l
 | [],acc=>by simp [encs]; exact nbytes_inj (by rw [nbytes_app]; simp [nbytes])
 | n :: l,acc=>by
  rw [List.foldl_cons,fold_encs l]
  exact nbytes_inj (by simp only [encs,nbytes_app,List.append_assoc])
theorem f113_eq (l:List Int) (h:∀ n ∈ l,smallI n) (hl:l.length ≤ 10000):f113 l = some (encs l,()):=by
 have hloop:=fold_loop tI (fun (acc:ByteArray) (n:Int)=>acc ++ enc n) (fun k j acc=>f113_l3 l k acc j) (fun r=>((r,()),(),())) (fun j acc=>acc.size ≤ 9 * j) l (by
  intro k j acc hI
  show f113_l3 l (k + 1) acc (j:Int) = _
  conv=>lhs; unfold f113_l3
  by_cases hj:j < l.length
  ·have e1:decide ((j:Int) < (l.length:Int)) = true:=by simp; omega
   have hget:at_ tI l (j:Int) = l[j]:=atN tI l j hj
   have hsm:smallI l[j]:=h _ (List.getElem_mem hj)
   have hsz:=enc_size hsm.1 hsm.2
   have hc:catOk acc (enc l[j]) = true:=catOk_small _ _ (by omega)
   rw [dif_pos hj]
   simp only [e1,cond_true,inRN,dT hj,wS j (by omega),hget,f172_eq hsm.1 hsm.2,Option.bind_some,decide_true,hc]
  ·have e1:decide ((j:Int) < (l.length:Int)) = false:=by simp; omega
   rw [dif_neg hj]
   simp only [e1,cond_false]) (by
  intro j acc hj hI
  have hsm:smallI l[j]:=h _ (List.getElem_mem hj)
  have hsz:=enc_size hsm.1 hsm.2
  show (acc ++ enc l[j]).size ≤ _
  have h3:(acc ++ enc l[j]).size = acc.size + (enc l[j]).size:=by simp
  omega)
 have h2:=hloop l.length (((l.length:Int) - (0:Int)).toNat + 1) 0 (⟨#[]⟩:ByteArray) (by omega) (by omega) (Nat.zero_le _)
 rw [List.drop_zero,fold_encs] at h2
 unfold f113
 have h3:f113_l3 l (((l.length:Int) - (0:Int)).toNat + 1) (⟨#[]⟩:ByteArray) (0:Int) = _:=h2
 rw [h3]
 show some ((⟨#[]⟩:ByteArray) ++ encs l,()) = _
 have:(⟨#[]⟩:ByteArray) ++ encs l = encs l:=nbytes_inj (by rw [nbytes_app]; rfl)
 rw [this]
theorem fold_six:∀ (es:List Ed) (acc:List Int),es.foldl (fun acc e=>acc ++ six e) acc = acc ++ es.flatMap six
 | [],acc=>by simp
 | e :: es,acc=>by rw [List.foldl_cons,fold_six es,List.flatMap_cons,List.append_assoc]
theorem six_len (es:List Ed):(es.flatMap six).length = 6 * es.length:=by
 induction es with
 | nil=>rfl
 | cons e es ih=>rw [List.flatMap_cons,List.length_append,ih,List.length_cons]; show 6 + _ = _; omega
theorem f49_eq (v:Vx) (es:List Ed) (hl:es.length ≤ 1000) (he:∀ e ∈ es,smallE e) (hv:smallI v.1 ∧ smallI v.2.1):f49 v es = some (encs (pageN v es),()):=by
 have hloop:=fold_loop tE (fun (acc:List Int) (e:Ed)=>acc ++ six e) (fun k j acc=>f49_l3 es k j acc) (fun r=>((),(),(r,()))) (fun j acc=>acc.length ≤ 3 + 6 * j) es (by
  intro k j acc hI
  show f49_l3 es (k + 1) (j:Int) acc = _
  conv=>lhs; unfold f49_l3
  by_cases hj:j < es.length
  ·have e1:decide ((j:Int) < (es.length:Int)) = true:=by simp; omega
   have hget:at_ tE es (j:Int) = es[j]:=atN tE es j hj
   have hap:∀ a b c d e f:Int,decide (acc.length + ([a,b,c,d,e,f]:List Int).length ≤ appLim) = true:=fun a b c d e f=>by simp [appLim]; omega
   rw [dif_pos hj]
   simp only [e1,cond_true,inRN,dT hj,wS j (by omega),hget,hap]
   cases hb:es[j].2.2.2.1 with
   | true =>
    have h6:six es[j] = [es[j].1,es[j].2.1,es[j].2.2.1,1,es[j].2.2.2.2.1,es[j].2.2.2.2.2.1]:=by unfold six; rw [hb]; rfl
    rw [h6]
    rfl
   | false =>
    have h6:six es[j] = [es[j].1,es[j].2.1,es[j].2.2.1,0,es[j].2.2.2.2.1,es[j].2.2.2.2.2.1]:=by unfold six; rw [hb]; rfl
    rw [h6]
    rfl
  ·have e1:decide ((j:Int) < (es.length:Int)) = false:=by simp; omega
   rw [dif_neg hj]
   simp only [e1,cond_false]) (by
  intro j acc hj hI
  show (acc ++ six es[j]).length ≤ _
  rw [List.length_append]
  have h4:(six es[j]).length = 6:=rfl
  omega)
 have h2:=hloop es.length (((es.length:Int) - (0:Int)).toNat + 1) 0 [v.1,v.2.1,(es.length:Int)] (by omega) (by omega) (by simp)
 rw [List.drop_zero,fold_six] at h2
 have hn:smallI (es.length:Int):=by unfold smallI maxI; omega
 have hsm:∀ n ∈ pageN v es,smallI n:=by
  intro n hn'
  unfold pageN at hn'
  simp only [List.mem_cons] at hn'
  rcases hn' with rfl | rfl | rfl | h
  ·exact hv.1
  ·exact hv.2
  ·exact hn
  ·obtain ⟨e,h1,h2⟩:=List.mem_flatMap.1 h
   exact he e h1 n h2
 have hlen:(pageN v es).length ≤ 10000:=by
  unfold pageN
  have:=six_len es
  simp only [List.length_cons]
  omega
 unfold f49
 have h3:f49_l3 es (((es.length:Int) - (0:Int)).toNat + 1) (0:Int) [v.1,v.2.1,(es.length:Int)] = _:=h2
 rw [h3]
 show ((f113 (pageN v es)).bind fun y14=>some (y14.1,())) = _
 rw [f113_eq _ hsm hlen]
 rfl
end Go.V.G
namespace Go.V.G
open Go.Proofs
def rowV (es:List Ed) (v:Vx):Int × (ByteArray × Unit):=(v.1,encs (pageN v (atE es v.1)),())
theorem fold_map {A B:Type} (f:A → B):∀ (l:List A) (acc:List B),l.foldl (fun acc e=>acc ++ [f e]) acc = acc ++ l.map f
 | [],acc=>by simp
 | e :: l,acc=>by rw [List.foldl_cons,fold_map f l,List.map_cons,List.append_assoc]; rfl
theorem appOk (n m:Nat) (h:n + m ≤ 1000000):decide (n + m ≤ appLim) = true:=by
 unfold appLim
 simp
 omega
theorem rows_loop (vs:List Vx) (es:List Ed) (ds:List Int) (hn:vs.length ≤ 1000) (hl:es.length ≤ 1000) (he:∀ e ∈ es,smallE e) (hv:∀ v ∈ vs,smallI v.1 ∧ smallI v.2.1) (z:Int) (k:Nat) (hk:vs.length < k) :
  f109_l1x vs (vs.length:Int) z vs es ds k 0 [] = some ((),((),(z,()),()),((),(vs,es,ds,()),(),vs.map (rowV es),())):=by
 have hl:=fold_loop tV (fun (acc:List En) (v:Vx)=>acc ++ [rowV es v]) (fun k j acc=>f109_l1x vs (vs.length:Int) z vs es ds k j acc) (fun r=>((),((),(z,()),()),((),(vs,es,ds,()),(),r,()))) (fun j acc=>acc.length ≤ j) vs (by
  intro k j acc hI
  show f109_l1x vs (vs.length:Int) z vs es ds (k + 1) (j:Int) acc = _
  conv=>lhs; unfold f109_l1x
  by_cases hj:j < vs.length
  ·have e1:decide ((j:Int) < (vs.length:Int)) = true:=by simp; omega
   have hget:at_ tV vs (j:Int) = vs[j]:=atN tV vs j hj
   rw [dif_pos hj]
   simp only [e1,cond_true,inRN,dT hj,wS j (by omega),hget,f54_eq (vs,es,ds,()) vs[j] hl he (hv _ (List.getElem_mem hj)),Option.bind_some]
   rw [appOk _ _ (by simp only [List.length_cons,List.length_nil]; omega)]
   rfl
  ·have e1:decide ((j:Int) < (vs.length:Int)) = false:=by simp; omega
   rw [dif_neg hj]
   simp only [e1,cond_false]) (by
  intro j acc hj hI
  show (acc ++ [rowV es vs[j]]).length ≤ _
  rw [List.length_append]
  show acc.length + 1 ≤ j + 1
  omega)
 have h2:=hl vs.length k 0 [] (by omega) hk (Nat.le_refl _)
 rw [List.drop_zero,fold_map] at h2
 exact h2
end Go.V.G
namespace Go.V.G
open Go.Proofs
theorem shl1 (i:Nat) (h:i ≤ 39):shlV .i64 1 (i:Int) = ((2 ^ i:Nat):Int):=by
 have:∀ i:Nat,i < 40 → shlV .i64 1 (i:Int) = ((2 ^ i:Nat):Int):=by decide
 exact this i (by omega)
theorem pow40 (i:Nat) (h:i ≤ 39):2 ^ i ≤ 549755813888:=by
 have:=Nat.pow_le_pow_right (show 0 < 2 by omega) h
 simpa using this
theorem wrapN (n:Nat) (h:n < 2 ^ 41):IntKind.wrap .i64 (n:Int) = (n:Int):=wrap_i64 _ (by omega) (by omega)
theorem orN (s i:Nat) (h:i ≤ 39) (hs:s < 2 ^ i):(BitVec.ofInt 64 (s:Int) ||| BitVec.ofInt 64 ((2 ^ i:Nat):Int)).toNat = s + 2 ^ i:=by
 have h2:=pow40 i h
 rw [BitVec.ofInt_natCast,BitVec.ofInt_natCast,BitVec.toNat_or,BitVec.toNat_ofNat,BitVec.toNat_ofNat]
 rw [Nat.mod_eq_of_lt (by omega),Nat.mod_eq_of_lt (by omega)]
 have h3:=Nat.two_pow_add_eq_or_of_lt hs 1
 rw [Nat.mul_one,Nat.or_comm] at h3
 rw [← h3]; omega
theorem or1 (s i:Nat) (h:i ≤ 39) (hs:s < 2 ^ i):orV .i64 (s:Int) (shlV .i64 1 (i:Int)) = ((s + 2 ^ i:Nat):Int):=by
 have h2:=pow40 i h
 rw [shl1 i h]
 show IntKind.wrap .i64 (((BitVec.ofInt 64 (s:Int) ||| BitVec.ofInt 64 ((2 ^ i:Nat):Int)).toNat:Nat):Int) = _
 rw [orN s i h hs]
 exact wrapN _ (by omega)
theorem add1 (s i:Nat) (h:i ≤ 39) (hs:s < 2 ^ i):IntKind.wrap .i64 ((s:Int) + shlV .i64 1 (i:Int)) = ((s + 2 ^ i:Nat):Int):=by
 have h2:=pow40 i h
 rw [shl1 i h,show (s:Int) + ((2 ^ i:Nat):Int) = ((s + 2 ^ i:Nat):Int) by omega]
 exact wrapN _ (by omega)
def bitsE (es:List Ed):Nat:=(es.map fun e=>2 ^ e.1.toNat).sum
end Go.V.G
namespace Go.V.G
open Go.Proofs
theorem bits_take (es:List Ed) (j:Nat) (h:j < es.length):bitsE (es.take (j + 1)) = bitsE (es.take j) + 2 ^ (es[j]).1.toNat:=by
 unfold bitsE
 rw [List.take_succ_eq_append_getElem h,List.map_append,List.sum_append]
 simp
theorem bits_lt (es:List Ed) (ha:asc kE es = true) (hn:∀ e ∈ es,0 ≤ e.1 ∧ e.1 ≤ 39):∀ (j:Nat) (h:j < es.length),bitsE (es.take j) < 2 ^ (es[j]).1.toNat
 | 0,h=>by
  show 0 < _
  exact Nat.two_pow_pos _
 | j + 1,h=>by
  have h1:=bits_lt es ha hn j (by omega)
  have h2:(es[j]'(by omega)).1 < (es[j + 1]).1:=(asc_adj kE).1 ha j h
  have h3:=hn _ (List.getElem_mem (show j < es.length by omega))
  rw [bits_take es j (by omega)]
  have h4:2 ^ ((es[j]'(by omega)).1.toNat + 1) ≤ 2 ^ (es[j + 1]).1.toNat:=Nat.pow_le_pow_right (by omega) (by omega)
  rw [Nat.pow_succ] at h4
  omega
theorem fold_bits:∀ (l:List Ed) (a:Nat),l.foldl (fun (acc:Int) (e:Ed)=>acc + ((2 ^ e.1.toNat:Nat):Int)) (a:Int) = ((a + bitsE l:Nat):Int)
 | [],a=>by simp [bitsE]
 | e :: l,a=>by
  rw [List.foldl_cons,show (a:Int) + ((2 ^ e.1.toNat:Nat):Int) = ((a + 2 ^ e.1.toNat:Nat):Int) by omega,fold_bits l]
  unfold bitsE
  rw [List.map_cons,List.sum_cons,Nat.add_assoc]
theorem set_loop (vs:List Vx) (es:List Ed) (ds:List Int) (hl:es.length ≤ 1000) (ha:asc kE es = true) (hn:∀ e ∈ es,0 ≤ e.1 ∧ e.1 ≤ 39) (z:Int) (rows:List En) (k:Nat) (hk:es.length < k) :
  f109_l7x es (es.length:Int) z vs es ds rows k 0 0 = some (((bitsE es:Int),()),((),(z,()),()),((),(vs,es,ds,()),(),rows,())):=by
 have hl:=fold_loop tE (fun (acc:Int) (e:Ed)=>acc + ((2 ^ e.1.toNat:Nat):Int)) (fun k j acc=>f109_l7x es (es.length:Int) z vs es ds rows k acc j) (fun r=>((r,()),((),(z,()),()),((),(vs,es,ds,()),(),rows,()))) (fun j acc=>acc = ((bitsE (es.take j):Nat):Int)) es (by
  intro k j acc hI
  show f109_l7x es (es.length:Int) z vs es ds rows (k + 1) acc (j:Int) = _
  conv=>lhs; unfold f109_l7x
  by_cases hj:j < es.length
  ·have e1:decide ((j:Int) < (es.length:Int)) = true:=by simp; omega
   have hget:at_ tE es (j:Int) = es[j]:=atN tE es j hj
   have h0:=hn _ (List.getElem_mem hj)
   have h1:=bits_lt es ha hn j hj
   have h2:=or1 (bitsE (es.take j)) (es[j]).1.toNat (by omega) h1
   rw [show (((es[j]).1.toNat:Nat):Int) = (es[j]).1 by omega] at h2
   rw [dif_pos hj]
   simp only [e1,cond_true,inRN,dT hj,wS j (by omega),hget,dT h0.1]
   rw [hI,h2]
   congr 1
  ·have e1:decide ((j:Int) < (es.length:Int)) = false:=by simp; omega
   rw [dif_neg hj]
   simp only [e1,cond_false]) (by
  intro j acc hj hI
  show acc + ((2 ^ (es[j]).1.toNat:Nat):Int) = _
  rw [hI,bits_take es j hj]
  omega)
 have h2:=hl es.length k 0 0 (by omega) hk rfl
 have h3:=fold_bits es 0
 rw [List.drop_zero,show (0:Int) = ((0:Nat):Int) from rfl,h3,Nat.zero_add] at h2
 exact h2
theorem set_loop_ref (vs:List Vx) (es:List Ed) (ds:List Int) (hl:es.length ≤ 1000) (ha:asc kE es = true) (hn:∀ e ∈ es,0 ≤ e.1 ∧ e.1 ≤ 39) (k:Nat) (hk:es.length < k) :
  f51_l3 vs es ds k 0 0 = some (((bitsE es:Int),()),(),((vs,es,ds,()),())):=by
 have hl:=fold_loop tE (fun (acc:Int) (e:Ed)=>acc + ((2 ^ e.1.toNat:Nat):Int)) (fun k j acc=>f51_l3 vs es ds k acc j) (fun r=>((r,()),(),((vs,es,ds,()),()))) (fun j acc=>acc = ((bitsE (es.take j):Nat):Int)) es (by
  intro k j acc hI
  show f51_l3 vs es ds (k + 1) acc (j:Int) = _
  conv=>lhs; unfold f51_l3
  by_cases hj:j < es.length
  ·have e1:decide ((j:Int) < (es.length:Int)) = true:=by simp; omega
   have hget:at_ tE es (j:Int) = es[j]:=atN tE es j hj
   have h0:=hn _ (List.getElem_mem hj)
   have h1:=bits_lt es ha hn j hj
   have h2:=add1 (bitsE (es.take j)) (es[j]).1.toNat (by omega) h1
   rw [show (((es[j]).1.toNat:Nat):Int) = (es[j]).1 by omega] at h2
   rw [dif_pos hj]
   simp only [e1,cond_true,inRN,dT hj,wS j (by omega),hget,dT h0.1]
   rw [hI,h2]
   congr 1
  ·have e1:decide ((j:Int) < (es.length:Int)) = false:=by simp; omega
   rw [dif_neg hj]
   simp only [e1,cond_false]) (by
  intro j acc hj hI
  show acc + ((2 ^ (es[j]).1.toNat:Nat):Int) = _
  rw [hI,bits_take es j hj]
  omega)
 have h2:=hl es.length k 0 0 (by omega) hk rfl
 have h3:=fold_bits es 0
 rw [List.drop_zero,show (0:Int) = ((0:Nat):Int) from rfl,h3,Nat.zero_add] at h2
 exact h2
end Go.V.G
namespace Go.V.G
open Go.Proofs
theorem asc_ge {α:Type} (f:α → Int) (l:List α) (ha:asc f l = true) (h0:∀ a ∈ l,0 ≤ f a):∀ (j:Nat) (h:j < l.length),(j:Int) ≤ f l[j]
 | 0,h=>h0 _ (List.getElem_mem h)
 | j + 1,h=>by
  have h1:=asc_ge f l ha h0 j (by omega)
  have h2:=(asc_adj f).1 ha j h
  omega
theorem ascF_len {α:Type} (f:α → Int) (l:List α) (ha:asc f l = true) (m:Nat) (h0:∀ a ∈ l,0 ≤ f a ∧ f a ≤ m):l.length ≤ m + 1:=by
 by_cases h:l.length ≤ m + 1
 ·exact h
 ·have h1:=asc_ge f l ha (fun a h=>(h0 a h).1) (m + 1) (by omega)
  have h2:=(h0 _ (List.getElem_mem (show m + 1 < l.length by omega))).2
  omega
structure Ok (vs:List Vx) (es:List Ed) (ds:List Int):Prop where
 av:asc kV vs = true
 ae:asc kE es = true
 ad:asc kI ds = true
 okv:∀ v ∈ vs,0 ≤ v.1 ∧ v.1 ≤ 23 ∧ 0 ≤ v.2.1 ∧ v.2.1 ≤ 3
 oke:∀ e ∈ es,okE e = true
 hs:∀ e ∈ es,hasV vs e.2.1 = true
 ht:∀ e ∈ es,hasV vs e.2.2.1 = true
 dl:ds.length ≤ 3
 hd:∀ d ∈ ds,hasV vs d = true
theorem ok_of (vs:List Vx) (es:List Ed) (ds:List Int) (h:valid (vs,es,ds,()) = true):Ok vs es ds:=by
 unfold valid at h
 simp only [Bool.and_eq_true,List.all_eq_true,decide_eq_true_eq] at h
 obtain ⟨⟨⟨⟨⟨⟨h1,h2⟩,h3⟩,h4⟩,h5⟩,h6⟩,h7⟩:=h
 refine ⟨h1,h2,h6,fun v hv=>?_,fun e he=>(h4 e he).1.1,fun e he=>(h4 e he).1.2,fun e he=>(h4 e he).2,h5,h7⟩
 have:=h3 v hv
 unfold okV at this
 simp only [Bool.and_eq_true,decide_eq_true_eq] at this
 omega
theorem Ok.nv {vs es ds} (h:Ok vs es ds):vs.length ≤ 24:=ascF_len kV vs h.av 23 fun v hv=>⟨(h.okv v hv).1,(h.okv v hv).2.1⟩
theorem Ok.eid {vs es ds} (h:Ok vs es ds):∀ e ∈ es,0 ≤ e.1 ∧ e.1 ≤ 39:=by
 intro e he
 have:=h.oke e he
 unfold okE at this
 simp only [Bool.and_eq_true,decide_eq_true_eq] at this
 omega
theorem Ok.ne {vs es ds} (h:Ok vs es ds):es.length ≤ 40:=ascF_len kE es h.ae 39 h.eid
theorem Ok.did {vs es ds} (h:Ok vs es ds):∀ d ∈ ds,0 ≤ d ∧ d ≤ 23:=by
 intro d hd
 have:=h.hd d hd
 unfold hasV at this
 obtain ⟨v,hv,h1⟩:=List.any_eq_true.1 this
 have h2:=h.okv v hv
 simp at h1
 omega
end Go.V.G
namespace Go.V.G
open Go.Proofs
theorem bind_step {A B:Type} {o:Option A} {a:A} {f:A → Option B} {r:Option B} (h:o = some a) (h2:f a = r):o.bind f = r:=by subst h; exact h2
theorem f50_eq (g:Gr) (h:g.2.1.length ≤ 1000000) (id:Int):f50 g id = some (atE g.2.1 id,()):=by
 obtain ⟨vs,es,ds,u⟩:=g
 simp only at h
 have hl:=fold_loop tE (fun (acc:List Ed) (e:Ed)=>if isAt id e = true then acc ++ [e] else acc) (fun k j acc=>f50_l3 id vs es ds k j acc) (fun r=>((),(),(r,()))) (fun j acc=>acc.length ≤ j) es (by
  intro k j acc hI
  show f50_l3 id vs es ds (k + 1) (j:Int) acc = _
  conv=>lhs; unfold f50_l3
  by_cases hj:j < es.length
  ·have e1:decide ((j:Int) < (es.length:Int)) = true:=by simp; omega
   have hget:at_ tE es (j:Int) = es[j]:=atN tE es j hj
   have hap:∀ e:Ed,decide (acc.length + ([e]:List Ed).length ≤ appLim) = true:=fun e=>by simp [appLim]; omega
   rw [dif_pos hj]
   simp only [e1,cond_true,inRN,dT hj,wS j (by omega),hget,hap]
   unfold isAt
   by_cases h1:es[j].2.1 = id
   ·simp [h1]
   ·by_cases h2:es[j].2.2.1 = id
    ·simp [h1,h2]
    ·simp [h1,h2]
  ·have e1:decide ((j:Int) < (es.length:Int)) = false:=by simp; omega
   rw [dif_neg hj]
   simp only [e1,cond_false]) (by
  intro j acc hj hI
  show (if isAt id es[j] = true then acc ++ [es[j]] else acc).length ≤ j + 1
  split
  ·simp; omega
  ·omega)
 have h2:=hl es.length (((es.length:Int) - (0:Int)).toNat + 1) 0 [] (by omega) (by omega) (by simp)
 rw [List.drop_zero,fold_filter] at h2
 unfold f50
 have h3:f50_l3 id vs es ds (((es.length:Int) - (0:Int)).toNat + 1) (0:Int) [] = _:=h2
 show ((f50_l3 id vs es ds (((es.length:Int) - (0:Int)).toNat + 1) (0:Int) []).bind fun o3=>some (o3.2.2.1,())) = _
 rw [h3,List.nil_append]
 rfl
theorem rows_loop_ref (vs:List Vx) (es:List Ed) (ds:List Int) (hn:vs.length ≤ 1000) (hl:es.length ≤ 1000) (he:∀ e ∈ es,smallE e) (hv:∀ v ∈ vs,smallI v.1 ∧ smallI v.2.1) (k:Nat) (hk:vs.length < k) :
  f14_l6 vs es ds k 0 [] = some ((),(),((vs,es,ds,()),vs.map (rowV es),())):=by
 have hl:=fold_loop tV (fun (acc:List En) (v:Vx)=>acc ++ [rowV es v]) (fun k j acc=>f14_l6 vs es ds k j acc) (fun r=>((),(),((vs,es,ds,()),r,()))) (fun j acc=>acc.length ≤ j) vs (by
  intro k j acc hI
  show f14_l6 vs es ds (k + 1) (j:Int) acc = _
  conv=>lhs; unfold f14_l6
  by_cases hj:j < vs.length
  ·have e1:decide ((j:Int) < (vs.length:Int)) = true:=by simp; omega
   have hget:at_ tV vs (j:Int) = vs[j]:=atN tV vs j hj
   have hlen:=atE_len es vs[j].1
   rw [dif_pos hj]
   simp only [e1,cond_true,inRN,dT hj,wS j (by omega),hget,f50_eq (vs,es,ds,()) (show es.length ≤ 1000000 by omega) vs[j].1,Option.bind_some,f49_eq vs[j] (atE es vs[j].1) (by omega) (fun e h=>he e (List.mem_filter.1 h).1) (hv _ (List.getElem_mem hj))]
   rw [appOk _ _ (by simp only [List.length_cons,List.length_nil]; omega)]
   rfl
  ·have e1:decide ((j:Int) < (vs.length:Int)) = false:=by simp; omega
   rw [dif_neg hj]
   simp only [e1,cond_false]) (by
  intro j acc hj hI
  show (acc ++ [rowV es vs[j]]).length ≤ _
  rw [List.length_append]
  show acc.length + 1 ≤ j + 1
  omega)
 have h2:=hl vs.length k 0 [] (by omega) hk (Nat.le_refl _)
 rw [List.drop_zero,fold_map] at h2
 exact h2
def headN (es:List Ed) (ds:List Int):List Int:=[(ds.length:Int)] ++ ds ++ [(bitsE es:Int)]
def entsG (vs:List Vx) (es:List Ed) (ds:List Int):List En:=vs.map (rowV es) ++ [(63,encs (headN es ds),())]
theorem bits_small {vs es ds} (h:Ok vs es ds):bitsE es < 2 ^ 40:=by
 by_cases h0:es.length = 0
 ·have:es = []:=List.length_eq_zero_iff.1 h0
  subst this
  decide
 ·have h1:=bits_lt es h.ae h.eid (es.length - 1) (by omega)
  have h2:=bits_take es (es.length - 1) (by omega)
  rw [show es.length - 1 + 1 = es.length by omega,List.take_length] at h2
  have h3:=h.eid _ (List.getElem_mem (show es.length - 1 < es.length by omega))
  have h4:=pow40 (es[es.length - 1]'(by omega)).1.toNat (by omega)
  omega
theorem Ok.sE {vs es ds} (h:Ok vs es ds):∀ e ∈ es,smallE e:=fun e he=>okE_small (h.oke e he)
theorem Ok.sV {vs es ds} (h:Ok vs es ds):∀ v ∈ vs,smallI v.1 ∧ smallI v.2.1:=fun v hv=>by
 have:=h.okv v hv
 unfold smallI maxI
 omega
theorem Ok.sH {vs es ds} (h:Ok vs es ds):∀ n ∈ headN es ds,smallI n:=by
 intro n hn
 have h1:=bits_small h
 have h2:=h.dl
 unfold headN at hn
 simp only [List.mem_append,List.mem_singleton] at hn
 rcases hn with (rfl | hn) | rfl
 ·unfold smallI maxI; omega
 ·have:=h.did n hn
  unfold smallI maxI; omega
 ·unfold smallI maxI; omega
theorem headR_eq (vs:List Vx) (es:List Ed) (ds:List Int) (h:Ok vs es ds):f51 (vs,es,ds,()) = some (encs (headN es ds),()):=by
 have n2:=h.ne
 have n3:=h.dl
 unfold f51
 refine bind_step (set_loop_ref vs es ds (by omega) h.ae h.eid _ (show es.length < _ by simp only []; omega)) ?_
 show (bif decide ([(ds.length:Int)].length + ds.length ≤ appLim) then bif decide (([(ds.length:Int)] ++ ds).length + [(bitsE es:Int)].length ≤ appLim) then (f113 (headN es ds)).bind fun y8=>some (y8.1,()) else none else none) = _
 rw [appOk _ _ (by simp; omega),appOk _ _ (by simp; omega),f113_eq (headN es ds) h.sH (by unfold headN; simp; omega)]
 rfl
theorem entriesR_eq (vs:List Vx) (es:List Ed) (ds:List Int) (h:Ok vs es ds) (hv:f48 (vs,es,ds,()) = some (true,())):f14 (vs,es,ds,()) = some (entsG vs es ds,0,()):=by
 have n1:=h.nv
 have n2:=h.ne
 have n3:=h.dl
 unfold f14
 simp only [hv,Option.bind_some,Bool.not_true,cond_false]
 refine bind_step (rows_loop_ref vs es ds (by omega) (by omega) h.sE h.sV _ (by omega)) ?_
 refine bind_step (headR_eq vs es ds h) ?_
 show (bif decide ((vs.map (rowV es)).length + [((63:Int),(encs (headN es ds),()))].length ≤ appLim) then some (entsG vs es ds,(0:Int),()) else none) = _
 rw [appOk _ _ (by simp; omega)]
 rfl
theorem entries_eq (vs:List Vx) (es:List Ed) (ds:List Int) (h:Ok vs es ds) (hv:f46 (vs,es,ds,()) = some (true,())):f13 (vs,es,ds,()) = some (entsG vs es ds,0,()):=by
 have n1:=h.nv
 have n2:=h.ne
 have n3:=h.dl
 have s1:∀ n ∈ [(ds.length:Int)],smallI n:=fun n hn=>h.sH n (by unfold headN; simp at hn ⊢; exact .inl hn)
 have s2:∀ n ∈ ds,smallI n:=fun n hn=>h.sH n (by unfold headN; simp; exact .inr (.inl hn))
 have s3:∀ n ∈ [(bitsE es:Int)],smallI n:=fun n hn=>h.sH n (by unfold headN; simp at hn ⊢; exact .inr (.inr hn))
 have z1:=encs_size _ s1
 have z2:=encs_size _ s2
 have z3:=encs_size _ s3
 simp only [List.length_cons,List.length_nil] at z1 z3
 unfold f13
 simp only [hv,Option.bind_some,Bool.not_true,cond_false]
 refine bind_step (rows_loop vs es ds (by omega) (by omega) h.sE h.sV _ _ (by omega)) ?_
 refine bind_step (set_loop vs es ds (by omega) h.ae h.eid _ _ _ (show es.length < _ by simp only []; omega)) ?_
 refine bind_step (f110_eq _ s1 (by simp)) ?_
 refine bind_step (f110_eq ds s2 (by omega)) ?_
 show (bif catOk (encs [(ds.length:Int)]) (encs ds) then (f110 [(bitsE es:Int)]).bind (fun y20=>bif (catOk (encs [(ds.length:Int)] ++ encs ds) y20.1) then bif (decide ((vs.map (rowV es)).length + ([((63:Int),(((encs [(ds.length:Int)] ++ encs ds) ++ y20.1),()))]:List En).length ≤ appLim)) then some ((vs.map (rowV es) ++ ([((63:Int),(((encs [(ds.length:Int)] ++ encs ds) ++ y20.1),()))]:List En)),(0:Int),()) else none else none) else none) = _
 rw [catOk_small _ _ (by omega),cond_true,f110_eq _ s3 (by simp),Option.bind_some]
 simp only []
 rw [catOk_small _ _ (by rw [ByteArray.size_append]; omega),cond_true,appOk _ _ (by simp; omega),cond_true]
 unfold entsG headN
 rw [encs_app,encs_app]
end Go.V.G
namespace Go.V.G
open Go.Proofs
theorem entries_p (vs:List Vx) (es:List Ed) (ds:List Int) (hv:valid (vs,es,ds,()) = true):f13 (vs,es,ds,()) = some (entsG vs es ds,0,()):=by
 have h:=ok_of vs es ds hv
 have n1:=h.nv
 have n2:=h.ne
 have n3:=h.dl
 refine entries_eq vs es ds h ?_
 rw [f46_eq (vs,es,ds,()) (show vs.length ≤ _ by omega) (show es.length ≤ _ by omega) (show ds.length ≤ _ by omega),hv]
theorem entries_all_p (vs:List Vx) (es:List Ed) (ds:List Int) (h1:vs.length ≤ 1099511627776) (h2:es.length ≤ 1099511627776) (h3:ds.length ≤ 1099511627776) :
  f13 (vs,es,ds,()) = some (if valid (vs,es,ds,()) = true then (entsG vs es ds,0,()) else ([],60,())):=by
 by_cases hv:valid (vs,es,ds,()) = true
 ·rw [if_pos hv,entries_p vs es ds hv]
 ·have hf:valid (vs,es,ds,()) = false:=by simpa using hv
  rw [if_neg hv]
  unfold f13
  refine bind_step ((f46_eq (vs,es,ds,()) h1 h2 h3).trans (by rw [hf])) ?_
  rfl
theorem entries_r (vs:List Vx) (es:List Ed) (ds:List Int) (hv:valid (vs,es,ds,()) = true):f14 (vs,es,ds,()) = some (entsG vs es ds,0,()):=by
 have h:=ok_of vs es ds hv
 have n1:=h.nv
 have n2:=h.ne
 have n3:=h.dl
 refine entriesR_eq vs es ds h ?_
 rw [f48_eq (vs,es,ds,()) (show vs.length ≤ _ by omega) (show es.length ≤ _ by omega) (show ds.length ≤ _ by omega),hv]
theorem entries_all_r (vs:List Vx) (es:List Ed) (ds:List Int) (h1:vs.length ≤ 1099511627776) (h2:es.length ≤ 1099511627776) (h3:ds.length ≤ 1099511627776) :
  f14 (vs,es,ds,()) = some (if valid (vs,es,ds,()) = true then (entsG vs es ds,0,()) else ([],60,())):=by
 by_cases hv:valid (vs,es,ds,()) = true
 ·rw [if_pos hv,entries_r vs es ds hv]
 ·have hf:valid (vs,es,ds,()) = false:=by simpa using hv
  rw [if_neg hv]
  unfold f14
  refine bind_step ((f48_eq (vs,es,ds,()) h1 h2 h3).trans (by rw [hf])) ?_
  rfl
end Go.V.G
namespace Go.V.G
open Go.Proofs
theorem encs_ne (n:Int) (l:List Int) (hn:smallI n):(encs (n :: l)).size ≠ 0:=by
 rw [← nbytes_len,nbytes_encs,List.flatMap_cons,List.length_append]
 have:(grpN (zig n)).length ≠ 0:=by
  unfold grpN
  split <;> simp
 omega
theorem pageN_small {vs es ds} (h:Ok vs es ds) {v:Vx} (hv:v ∈ vs):∀ n ∈ pageN v (atE es v.1),smallI n:=by
 have hlen:=atE_len es v.1
 have n2:=h.ne
 intro n hn'
 unfold pageN at hn'
 simp only [List.mem_cons] at hn'
 rcases hn' with rfl | rfl | rfl | h1
 ·exact (h.sV v hv).1
 ·exact (h.sV v hv).2
 ·unfold smallI maxI; omega
 ·obtain ⟨e,h1,h2⟩:=List.mem_flatMap.1 h1
  exact h.sE e (List.mem_filter.1 h1).1 n h2
theorem pageN_len {vs es ds} (h:Ok vs es ds) (v:Vx):(pageN v (atE es v.1)).length ≤ 243:=by
 have hlen:=atE_len es v.1
 have n2:=h.ne
 have h6:=six_len (atE es v.1)
 unfold pageN
 simp only [List.length_cons]
 omega
theorem ents_valid {vs es ds} (h:Ok vs es ds):Valid (entsG vs es ds):=by
 have n3:=h.dl
 refine ⟨?_,?_,?_⟩
 ·intro e he
  unfold entsG at he
  rcases List.mem_append.1 he with he | he
  ·obtain ⟨v,hv,rfl⟩:=List.mem_map.1 he
   have:=h.okv v hv
   show 0 ≤ v.1 ∧ v.1 < 64
   omega
  ·rw [List.mem_singleton.1 he]
   exact ⟨(by decide:(0:Int) ≤ 63),(by decide:(63:Int) < 64)⟩
 ·intro e he
  unfold entsG at he
  rcases List.mem_append.1 he with he | he
  ·obtain ⟨v,hv,rfl⟩:=List.mem_map.1 he
   have h1:=encs_size _ (pageN_small h hv)
   have h2:=pageN_len h v
   refine ⟨encs_ne _ _ (h.sV v hv).1,?_⟩
   show (encs (pageN v (atE es v.1))).size ≤ _
   omega
  ·rw [List.mem_singleton.1 he]
   have h1:=encs_size _ h.sH
   have h2:(headN es ds).length = ds.length + 2:=by unfold headN; simp
   refine ⟨encs_ne _ _ (h.sH _ (by unfold headN; simp)),?_⟩
   show (encs (headN es ds)).size ≤ _
   omega
 ·unfold entsG
  refine List.pairwise_append.2 ⟨?_,by simp,?_⟩
  ·exact List.pairwise_map.2 ((asc_pairwise kV).1 h.av)
  ·intro a ha b hb
   obtain ⟨v,hv,rfl⟩:=List.mem_map.1 ha
   rw [List.mem_singleton.1 hb]
   have:=h.okv v hv
   show v.1 < 63
   omega
end Go.V.G
namespace Go.V.G
open Go.Proofs
structure Cur (s:ByteArray) (a:Nat) (l:List Int):Prop where
 sz:s.size ≤ 1099511627776
 le:a ≤ s.size
 tx:(nbytes s).drop a = nbytes (encs l)
end Go.V.G
namespace Go.V.G
open Go.Proofs
end Go.V.G
namespace Go.V.G
open Go.Proofs
end Go.V.G
namespace Go.V.G
open Go.Proofs
end Go.V.G
namespace Go.V.G
open Go.Proofs
end Go.V.G
namespace Go.V.G
open Go.Proofs
def farV (d:Int):Vx:=(d,0,())
theorem far_rows (es:List Ed):∀ (l:List Int) (pre:List Int) (acc:List Vx) (k:Nat),l.length < k → acc.length + l.length ≤ 1000 → pre.length + l.length ≤ 1000 →
  f67_l3 (pre ++ l) ((pre ++ l).length:Int) es k (pre.length:Int) acc = some ((),(),((),(es,()),acc ++ l.map farV,()))
 | [],pre,acc,k,hk,h1,h2=>by
  obtain ⟨k,rfl⟩:∃ q,k = q + 1:=⟨k - 1,by omega⟩
  have e1:decide ((pre.length:Int) < ((pre ++ []).length:Int)) = false:=by simp
  unfold f67_l3
  rw [e1,List.map_nil,List.append_nil,List.append_nil]
  rfl
 | d :: l,pre,acc,k,hk,h1,h2=>by
  simp only [List.length_cons] at hk h1 h2
  obtain ⟨k,rfl⟩:∃ q,k = q + 1:=⟨k - 1,by omega⟩
  have hj:pre.length < (pre ++ d :: l).length:=by simp
  have e1:decide ((pre.length:Int) < ((pre ++ d :: l).length:Int)) = true:=by simp; omega
  have hget:at_ tI (pre ++ d :: l) (pre.length:Int) = d:=(atN tI (pre ++ d :: l) pre.length hj).trans (by simp)
  have ih:=far_rows es l (pre ++ [d]) (acc ++ [farV d]) k (by omega) (by simp; omega) (by simp; omega)
  rw [show pre ++ [d] ++ l = pre ++ d :: l by simp,List.append_assoc,show ((pre ++ [d]).length) = pre.length + 1 by simp] at ih
  conv=>lhs; unfold f67_l3
  rw [e1,inRN,dT hj,hget,wS pre.length (by omega),appOk _ _ (by simp; omega)]
  exact ih
end Go.V.G
namespace Go.V.G
open Go.Proofs
def farE (id:Int) (e:Ed):Int:=if id = e.2.1 then e.2.2.1 else if id = e.2.2.1 then e.2.1 else -1
theorem f64_eq (e:Ed) (id:Int):f64 e id = some (farE id e,()):=by
 unfold f64 farE
 by_cases h1:id = e.2.1
 ·rw [dT h1,if_pos h1]; rfl
 ·rw [dF h1,if_neg h1]
  by_cases h2:id = e.2.2.1
  ·rw [dT h2,if_pos h2]; rfl
  ·rw [dF h2,if_neg h2]; rfl
theorem fold_far (id:Int):∀ (l:List Ed) (acc:List Int),l.foldl (fun acc e=>if isAt id e = true then acc ++ [farE id e] else acc) acc = acc ++ (atE l id).map (farE id)
 | [],acc=>by simp [atE]
 | e :: l,acc=>by
  have hf:atE (e :: l) id = if isAt id e = true then e :: atE l id else atE l id:=by
   unfold atE isAt
   rw [List.filter_cons]
  rw [List.foldl_cons,fold_far id l,hf]
  split
  ·rw [List.map_cons,List.append_assoc]; rfl
  ·rfl
theorem ends_loop (es:List Ed) (id:Int) (h:es.length ≤ 1000) (k:Nat) (hk:es.length < k):pf31_l2 es (es.length:Int) id k 0 [] = some ((),(),((id,()),(atE es id).map (farE id),())):=by
 have hl:=fold_loop tE (fun (acc:List Int) (e:Ed)=>if isAt id e = true then acc ++ [farE id e] else acc) (fun k j acc=>pf31_l2 es (es.length:Int) id k j acc) (fun r=>((),(),((id,()),r,()))) (fun j acc=>acc.length ≤ j) es (by
  intro k j acc hI
  show pf31_l2 es (es.length:Int) id (k + 1) (j:Int) acc = _
  conv=>lhs; unfold pf31_l2
  by_cases hj:j < es.length
  ·have e1:decide ((j:Int) < (es.length:Int)) = true:=by simp; omega
   have hget:at_ tE es (j:Int) = es[j]:=atN tE es j hj
   have hap:∀ n:Int,decide (acc.length + ([n]:List Int).length ≤ appLim) = true:=fun e=>appOk _ _ (by simp; omega)
   rw [dif_pos hj]
   simp only [e1,cond_true,inRN,dT hj,wS j (by omega),hget,f64_eq,Option.bind_some,hap]
   unfold isAt
   by_cases h1:es[j].2.1 = id
   ·simp [h1]
   ·by_cases h2:es[j].2.2.1 = id
    ·simp [h1,h2]
    ·simp [h1,h2]
  ·have e1:decide ((j:Int) < (es.length:Int)) = false:=by simp; omega
   rw [dif_neg hj]
   simp only [e1,cond_false]) (by
  intro j acc hj hI
  show (if isAt id es[j] = true then acc ++ [farE id es[j]] else acc).length ≤ j + 1
  split
  ·simp; omega
  ·omega)
 have h2:=hl es.length k 0 [] (by omega) hk (by simp)
 rw [List.drop_zero,fold_far] at h2
 exact h2
end Go.V.G
namespace Go.V.G
open Go.Proofs
def comp:List Int → List Int
 | []=>[]
 | a :: l=>match l with
  | []=>[a]
  | b :: _=>if a = b then comp l else a :: comp l
theorem comp_snoc:∀ (l:List Int) (a b:Int),comp (l ++ [a,b]) = if b = a then comp (l ++ [a]) else comp (l ++ [a]) ++ [b]
 | [],a,b=>by
  show (if a = b then [b] else a :: [b]) = if b = a then [a] else [a] ++ [b]
  by_cases h:a = b
  ·subst h; simp
  ·rw [if_neg h,if_neg (fun h1=>h h1.symm)]; rfl
 | [c],a,b=>by
  show (if c = a then comp [a,b] else c :: comp [a,b]) = if b = a then (if c = a then [a] else c :: [a]) else (if c = a then [a] else c :: [a]) ++ [b]
  show (if c = a then (if a = b then [b] else a :: [b]) else c :: (if a = b then [b] else a :: [b])) = _
  by_cases h:a = b
  ·subst h; simp
  ·have h':¬ b = a:=fun h1=>h h1.symm
   rw [if_neg h,if_neg h']
   split <;> rfl
 | c :: d :: l,a,b=>by
  have ih:=comp_snoc (d :: l) a b
  show (if c = d then comp ((d :: l) ++ [a,b]) else c :: comp ((d :: l) ++ [a,b])) = if b = a then (if c = d then comp ((d :: l) ++ [a]) else c :: comp ((d :: l) ++ [a])) else (if c = d then comp ((d :: l) ++ [a]) else c :: comp ((d :: l) ++ [a])) ++ [b]
  rw [ih]
  by_cases h:b = a
  ·simp only [if_pos h]
  ·simp only [if_neg h]
   split <;> rfl
end Go.V.G
namespace Go.V.G
open Go.Proofs
theorem take_two (l:List Int) (i:Nat) (h:i + 1 < l.length):l.take (i + 2) = l.take i ++ [l[i]'(by omega),l[i + 1]]:=by
 rw [List.take_succ_eq_append_getElem h,List.take_succ_eq_append_getElem (show i < l.length by omega),List.append_assoc]
 rfl
theorem comp_take (l:List Int) (i:Nat) (h:i + 1 < l.length):comp (l.take (i + 2)) = if l[i + 1] = l[i]'(by omega) then comp (l.take (i + 1)) else comp (l.take (i + 1)) ++ [l[i + 1]]:=by
 rw [take_two l i h,comp_snoc,← List.take_succ_eq_append_getElem (show i < l.length by omega)]
theorem get_drop {r l:List Int} {a i:Nat} (h:r.drop a = l.drop a) (hl:r.length = l.length) (hi:a ≤ i) (h1:i < l.length):r[i]'(by omega) = l[i]:=by
 have h2:(r.drop a)[i - a]'(by rw [List.length_drop]; omega) = (l.drop a)[i - a]'(by rw [List.length_drop]; omega):=by simp only [h]
 rw [List.getElem_drop,List.getElem_drop] at h2
 simpa [show a + (i - a) = i by omega] using h2
theorem comp_loop (orig:List Int) (o n:Nat) (id:Int) (ho:o + n = orig.length) (hl:orig.length ≤ 1000):∀ (m k t w:Nat) (r:List Int),n - t ≤ m → m < k → 1 ≤ t → t ≤ n → r.length = orig.length → r.drop (o + t - 1) = orig.drop (o + t - 1) → r.take w = comp (orig.take (o + t)) → w ≤ o + t - 1 →
  ∃ (w':Nat) (r':List Int),pf73_l9x (o,n) id k (w:Int) (t:Int) r = some (((w':Int),()),((),()),(r',(id,()),())) ∧ r'.length = orig.length ∧ w' ≤ orig.length ∧ r'.take w' = comp orig:=by
 intro m
 induction m with
 | zero =>
  intro k t w r h1 h2 h3 h4 h5 h6 h7 h8
  obtain ⟨k,rfl⟩:∃ q,k = q + 1:=⟨k - 1,by omega⟩
  have hlen:((r.drop o).take n).length = n:=by rw [List.length_take,List.length_drop]; omega
  refine ⟨w,r,?_,h5,by omega,?_⟩
  ·unfold pf73_l9x
   simp only [hlen]
   rw [dF (by omega)]
   rfl
  ·rw [h7,show o + t = orig.length by omega,List.take_length]
 | succ m ih =>
  intro k t w r h1 h2 h3 h4 h5 h6 h7 h8
  obtain ⟨k,rfl⟩:∃ q,k = q + 1:=⟨k - 1,by omega⟩
  have hlen:((r.drop o).take n).length = n:=by rw [List.length_take,List.length_drop]; omega
  by_cases ht:t < n
  ·obtain ⟨t,rfl⟩:∃ q,t = q + 1:=⟨t - 1,by omega⟩
   have hlt:o + t + 1 < orig.length:=by omega
   have g1:=get_drop h6 h5 (i:=o + t) (by omega) (by omega)
   have g2:=get_drop h6 h5 (i:=o + t + 1) (by omega) hlt
   have w1:IntKind.wrap .i64 (((t + 1:Nat):Int) - (1:Int)) = (t:Int):=by rw [wrap_i64 _ (by omega) (by omega)]; omega
   have a1:at_ tI r ((o:Int) + (t:Int)) = orig[o + t]'(by omega):=by
    rw [show (o:Int) + (t:Int) = ((o + t:Nat):Int) by omega]
    exact (atN tI r (o + t) (by omega)).trans g1
   have a2:at_ tI r ((o:Int) + ((t + 1:Nat):Int)) = orig[o + t + 1]:=by
    rw [show (o:Int) + ((t + 1:Nat):Int) = ((o + t + 1:Nat):Int) by omega]
    exact (atN tI r (o + t + 1) (by omega)).trans g2
   have ct:=comp_take orig (o + t) hlt
   have d1:r.drop (o + (t + 1 + 1) - 1) = orig.drop (o + (t + 1 + 1) - 1):=by
    have:=congrArg (List.drop 1) h6
    rw [List.drop_drop,List.drop_drop] at this
    rw [show o + (t + 1 + 1) - 1 = o + (t + 1) - 1 + 1 by omega]
    exact this
   conv=>enter [1,w',1,r',1,1]; unfold pf73_l9x
   simp only [hlen,dT (show ((t + 1:Nat):Int) < (n:Int) by omega),cond_true,w1,a1,a2,inRN,dT (show t + 1 < n by omega),dT (show t < n by omega),wS (t + 1) (by omega)]
   by_cases he:orig[o + t + 1] = orig[o + t]'(by omega)
   ·rw [if_pos he] at ct
    obtain ⟨w',r',q1,q2⟩:=ih k (t + 1 + 1) w r (by omega) (by omega) (by omega) (by omega) h5 d1 (by rw [h7]; exact ct.symm) (by omega)
    refine ⟨w',r',?_,q2⟩
    simp only [he,ne_eq,not_true_eq_false,decide_false,cond_false]
    exact q1
   ·rw [if_neg he] at ct
    have hw:w < r.length:=by omega
    obtain ⟨w',r',q1,q2⟩:=ih k (t + 1 + 1) (w + 1) (r.set w (orig[o + t + 1])) (by omega) (by omega) (by omega) (by omega) (by rw [List.length_set]; exact h5) (by rw [List.drop_set_of_lt (by omega)]; exact d1) (by
     rw [List.take_succ_eq_append_getElem (by rw [List.length_set]; exact hw),List.take_set_of_le (by omega),List.getElem_set_self,h7]
     exact ct.symm) (by omega)
    refine ⟨w',r',?_,q2⟩
    simp only [he,ne_eq,not_false_eq_true,decide_true,cond_true,dT hw,wS w (by omega),Int.toNat_natCast]
    exact q1
  ·refine ⟨w,r,?_,h5,by omega,?_⟩
   ·unfold pf73_l9x
    simp only [hlen]
    rw [dF (by omega)]
    rfl
   ·rw [h7,show o + t = orig.length by omega,List.take_length]
end Go.V.G
namespace Go.V.G
open Go.Proofs
theorem setRange_len {α:Type} (l:List α) (lo:Nat) (m:List α) (h:lo + m.length ≤ l.length):(setRange l lo m).length = l.length:=by
 unfold setRange
 simp only [List.length_append,List.length_take,List.length_drop]
 omega
theorem setRange_take {α:Type} (l:List α) (lo:Nat) (m:List α) (h:lo ≤ l.length):(setRange l lo m).take lo = l.take lo:=by
 unfold setRange
 rw [List.append_assoc,List.take_append_of_le_length (by rw [List.length_take]; omega),List.take_take,Nat.min_self]
theorem cutLo (n:Nat) (a:Nat) (h:a ≤ n):cutOk n (some (a:Int)) none = true:=by
 unfold cutOk
 simp only [Bool.and_eq_true,decide_eq_true_eq]
 omega
theorem cutHi' (n:Nat) (a:Nat) (h:a ≤ n):cutOk n none (some (a:Int)) = true:=by
 unfold cutOk
 simp only [Bool.and_eq_true,decide_eq_true_eq]
 omega
theorem cutLenLo (n a:Nat):cutLen n (some (a:Int)) none = n - a:=by
 unfold cutLen cutHi cutFrom
 simp
theorem cutLenHi (n a:Nat):cutLen n none (some (a:Int)) = a:=by
 unfold cutLen cutHi cutFrom
 simp
theorem comp_first (id:Int) (r:List Int) (hl:r.length ≤ 1000):∀ (m k j:Nat),r.length - j ≤ m → m < k → 1 ≤ j → j ≤ r.length → comp (r.take j) = r.take j →
  (pf73_l4x r id k (j:Int) = some (.inl ((),((),()),(r,(id,()),()))) ∧ comp r = r) ∨
  ∃ (w:Nat) (r':List Int),pf73_l4x r id k (j:Int) = some (.inr ((w,()),((),()),(r',(id,()),()))) ∧ r'.length = r.length ∧ w ≤ r.length ∧ r'.take w = comp r:=by
 intro m
 induction m with
 | zero =>
  intro k j h1 h2 h3 h4 h5
  obtain ⟨k,rfl⟩:∃ q,k = q + 1:=⟨k - 1,by omega⟩
  left
  have hj:j = r.length:=by omega
  subst hj
  rw [List.take_length] at h5
  refine ⟨?_,h5⟩
  unfold pf73_l4x
  rw [dF (by omega)]
  rfl
 | succ m ih =>
  intro k j h1 h2 h3 h4 h5
  obtain ⟨k,rfl⟩:∃ q,k = q + 1:=⟨k - 1,by omega⟩
  by_cases hj:j < r.length
  ·obtain ⟨i,rfl⟩:∃ q,j = q + 1:=⟨j - 1,by omega⟩
   have w1:IntKind.wrap .i64 (((i + 1:Nat):Int) - (1:Int)) = (i:Int):=by rw [wrap_i64 _ (by omega) (by omega)]; omega
   have a1:at_ tI r (i:Int) = r[i]'(by omega):=atN tI r i (by omega)
   have a2:at_ tI r ((i + 1:Nat):Int) = r[i + 1]:=atN tI r (i + 1) hj
   have ct:=comp_take r i hj
   unfold pf73_l4x
   simp only [dT (show ((i + 1:Nat):Int) < (r.length:Int) by omega),cond_true,w1,a1,a2,inRN,dT hj,dT (show i < r.length by omega),wS (i + 1) (by omega)]
   by_cases he:r[i + 1] = r[i]'(by omega)
   ·right
    rw [if_pos he] at ct
    obtain ⟨w,r',q1,q2,q3,q4⟩:=comp_loop r (i + 1) (r.length - (i + 1)) id (by omega) hl (r.length - (i + 1) - 1) (r.length - (i + 1) + 1) 1 (i + 1) r (by omega) (by omega) (by omega) (by omega) rfl rfl (by rw [show i + 1 + 1 = i + 2 by omega,ct,h5]) (by omega)
    refine ⟨w,setRange r' w (List.replicate (r'.length - w) (0:Int)),?_,?_,q3,?_⟩
    ·simp only [he,decide_true,cond_true,cutLo r.length (i + 1) (by omega),cutLenLo,Int.toNat_natCast]
     have q1':pf73_l9x (i + 1,r.length - (i + 1)) id (r.length - (i + 1) + 1) ((i + 1:Nat):Int) 1 r = _:=q1
     refine bind_step q1' ?_
     show (bif cutOk r'.length (some (w:Int)) none then bif (cutOk (setRange r' (Int.toNat (w:Int)) (List.replicate (cutLen r'.length (some (w:Int)) none) (0:Int))).length none (some (w:Int))) then (some (.inr (((cutLen (setRange r' (Int.toNat (w:Int)) (List.replicate (cutLen r'.length (some (w:Int)) none) (0:Int))).length none (some (w:Int))),()),((),()),((setRange r' (Int.toNat (w:Int)) (List.replicate (cutLen r'.length (some (w:Int)) none) (0:Int))),(id,()),()))):Option (outDen pf73_l4x_outs)) else none else none) = _
     simp only [cutLo r'.length w (by omega),cond_true,Int.toNat_natCast,cutLenLo]
     rw [cutHi' _ w (by rw [setRange_len _ _ _ (by rw [List.length_replicate]; omega)]; omega),cutLenHi]
     rfl
    ·rw [setRange_len _ _ _ (by rw [List.length_replicate]; omega),q2]
    ·rw [setRange_take _ _ _ (by omega),q4]
   ·rw [if_neg he] at ct
    have ct':comp (r.take (i + 1 + 1)) = r.take (i + 1 + 1):=by
     rw [show i + 1 + 1 = i + 2 by omega,ct,h5,List.take_succ_eq_append_getElem (show i + 1 < r.length from hj)]
    simp only [he,decide_false,cond_false]
    exact ih k (i + 1 + 1) (by omega) (by omega) (by omega) (by omega) ct'
  ·left
   have hj:j = r.length:=by omega
   subst hj
   rw [List.take_length] at h5
   refine ⟨?_,h5⟩
   unfold pf73_l4x
   rw [dF (by omega)]
   rfl
end Go.V.G
namespace Go.V.G
open Go.Proofs
theorem notIn_filter (id:Int):∀ (l:List Int),id ∉ l → l.filter (fun x=>!decide (x = id)) = l:=by
 intro l h
 rw [List.filter_eq_self]
 intro a ha
 have:a ≠ id:=fun e=>h (e ▸ ha)
 simp [this]
theorem idx_of (n k1:Nat) (r:List Int) (id:Int) (hn:n ≤ r.length) (hl:r.length ≤ 1000):∀ (m k j:Nat),n - j ≤ m → m < k → j ≤ n → id ∉ r.take j →
  (pf125_l2x n (n:Int) n k1 r id k (j:Int) = some (.inl ((),((n,()),(k1,()),()),(r,(id,()),()))) ∧ id ∉ r.take n) ∨
  ∃ (i:Nat) (h:i < r.length),pf125_l2x n (n:Int) n k1 r id k (j:Int) = some (.inr (((i:Int),()),((n,()),(k1,()),()),(r,(id,()),()))) ∧ i < n ∧ id ∉ r.take i ∧ r[i] = id:=by
 intro m
 induction m with
 | zero =>
  intro k j h1 h2 h3 h4
  obtain ⟨k,rfl⟩:∃ q,k = q + 1:=⟨k - 1,by omega⟩
  left
  have hj:j = n:=by omega
  subst hj
  refine ⟨?_,h4⟩
  unfold pf125_l2x
  rw [dF (by omega)]
  rfl
 | succ m ih =>
  intro k j h1 h2 h3 h4
  obtain ⟨k,rfl⟩:∃ q,k = q + 1:=⟨k - 1,by omega⟩
  by_cases hj:j < n
  ·have hr:j < r.length:=by omega
   have a1:at_ tI r (0 + (j:Int)) = r[j]:=by rw [Int.zero_add]; exact atN tI r j hr
   unfold pf125_l2x
   simp only [dT (show (j:Int) < (n:Int) by omega),cond_true,inRN,dT hj,a1,wS j (by omega)]
   by_cases he:r[j] = id
   ·right
    refine ⟨j,hr,?_,hj,h4,he⟩
    rw [dT he,cond_true]
   ·rw [dF he,cond_false]
    refine ih k (j + 1) (by omega) (by omega) (by omega) ?_
    rw [List.take_succ_eq_append_getElem hr,List.mem_append]
    rintro (h | h)
    ·exact h4 h
    ·exact he (List.mem_singleton.1 h).symm
  ·left
   have hj:j = n:=by omega
   subst hj
   refine ⟨?_,h4⟩
   unfold pf125_l2x
   rw [dF (by omega)]
   rfl
theorem del_loop (n k1:Nat) (orig:List Int) (id:Int) (hn:n ≤ orig.length) (hl:orig.length ≤ 1000):∀ (m k t w:Nat) (r:List Int),n - t ≤ m → m < k → t ≤ n → r.length = orig.length → r.drop t = orig.drop t → r.take w = (orig.take t).filter (fun x=>!decide (x = id)) → w ≤ t →
  ∃ (w':Nat) (r':List Int),pf72_l5x n k1 id k (w:Int) (t:Int) r = some ((n,(w':Int),()),((k1,()),()),(r',())) ∧ r'.length = orig.length ∧ w' ≤ n ∧ r'.take w' = (orig.take n).filter (fun x=>!decide (x = id)):=by
 intro m
 induction m with
 | zero =>
  intro k t w r h1 h2 h3 h4 h5 h6 h7
  obtain ⟨k,rfl⟩:∃ q,k = q + 1:=⟨k - 1,by omega⟩
  have ht:t = n:=by omega
  subst ht
  have hlen:((r.drop 0).take t).length = t:=by rw [List.length_take,List.length_drop]; omega
  refine ⟨w,r,?_,h4,h7,h6⟩
  unfold pf72_l5x
  simp only [hlen]
  rw [dF (by omega)]
  rfl
 | succ m ih =>
  intro k t w r h1 h2 h3 h4 h5 h6 h7
  obtain ⟨k,rfl⟩:∃ q,k = q + 1:=⟨k - 1,by omega⟩
  have hlen:((r.drop 0).take n).length = n:=by rw [List.length_take,List.length_drop]; omega
  by_cases ht:t < n
  ·have hto:t < orig.length:=by omega
   have g:=get_drop h5 h4 (Nat.le_refl t) hto
   have a1:at_ tI r (t:Int) = orig[t]:=(atN tI r t (by omega)).trans g
   have d1:r.drop (t + 1) = orig.drop (t + 1):=by
    have:=congrArg (List.drop 1) h5
    rwa [List.drop_drop,List.drop_drop] at this
   have ft:(orig.take (t + 1)).filter (fun x=>!decide (x = id)) = (orig.take t).filter (fun x=>!decide (x = id)) ++ (if orig[t] = id then [] else [orig[t]]):=by
    rw [List.take_succ_eq_append_getElem hto,List.filter_append]
    congr 1
    by_cases he:orig[t] = id <;> simp [he]
   conv=>enter [1,w',1,r',1,1]; unfold pf72_l5x
   simp only [hlen,dT (show (t:Int) < (n:Int) by omega),cond_true,inRN,dT ht,a1,wS t (by omega),wS w (by omega),dT (show w < n by omega),Int.zero_add,Int.toNat_natCast]
   by_cases he:orig[t] = id
   ·rw [if_pos he,List.append_nil] at ft
    simp only [he,decide_true,Bool.not_true,cond_false]
    exact ih k (t + 1) w r (by omega) (by omega) (by omega) h4 d1 (by rw [h6,ft]) (by omega)
   ·rw [if_neg he] at ft
    simp only [dF he,Bool.not_false,cond_true]
    refine ih k (t + 1) (w + 1) (r.set w orig[t]) (by omega) (by omega) (by omega) (by rw [List.length_set]; exact h4) (by rw [List.drop_set_of_lt (by omega)]; exact d1) ?_ (by omega)
    rw [List.take_succ_eq_append_getElem (by rw [List.length_set]; omega),List.take_set_of_le (by omega),List.getElem_set_self,h6,ft]
  ·have ht:t = n:=by omega
   subst ht
   refine ⟨w,r,?_,h4,h7,h6⟩
   unfold pf72_l5x
   simp only [hlen]
   rw [dF (by omega)]
   rfl
def delT (n k1:Nat) (r:List Int) (id:Int):Option (List Int × Unit) :=
 (pf125_l2x n (n:Int) n k1 r id (((n:Int) - (0:Int)).toNat + 1) (0:Int)).bind fun o10 =>
  Sum.elim (fun o11 =>
   let u13:Nat:=o11.2.1.1.1
   let u15:(List Int):=o11.2.2.1
   some (((u15.drop 0).take u13),())) (fun o12 =>
   let u17:Int:=o12.1.1
   let u18:Nat:=o12.2.1.1.1
   let u19:Nat:=o12.2.1.2.1.1
   let u20:(List Int):=o12.2.2.1
   let u21:Int:=o12.2.2.2.1.1
   bif (decide (u17 = (-1:Int))) then
    some (((u20.drop 0).take u18),())
   else
    (pf72_l5x u18 u19 u21 (((((u20.drop 0).take u18).length:Int) - (IntKind.wrap .i64 (u17 + (1:Int)))).toNat + 1) u17 (IntKind.wrap .i64 (u17 + (1:Int))) u20).bind fun o24 =>
    let u25:Nat:=o24.1.1
    let u26:Int:=o24.1.2.1
    let u28:(List Int):=o24.2.2.1
    bif (cutOk u25 (some u26) none) then bif (cutOk u25 none (some u26)) then some ((((setRange u28 (0 + (Int.toNat u26)) (List.replicate (cutLen u25 (some u26) none) (0:Int))).drop 0).take (cutLen u25 none (some u26))),()) else none else none) o10
theorem delT_eq (n k1:Nat) (r:List Int) (id:Int) (hn:n ≤ r.length) (hl:r.length ≤ 1000):delT n k1 r id = some ((r.take n).filter (fun x=>!decide (x = id)),()):=by
 unfold delT
 rcases idx_of n k1 r id hn hl n (((n:Int) - (0:Int)).toNat + 1) 0 (by omega) (by omega) (by omega) (by simp) with ⟨h1,h2⟩ | ⟨i,hi,h1,h2,h3,h4⟩
 ·have h1':pf125_l2x n (n:Int) n k1 r id (((n:Int) - (0:Int)).toNat + 1) (0:Int) = _:=h1
  refine bind_step h1' ?_
  show some ((r.drop 0).take n,()) = _
  rw [List.drop_zero,notIn_filter id _ h2]
 ·have h1':pf125_l2x n (n:Int) n k1 r id (((n:Int) - (0:Int)).toNat + 1) (0:Int) = _:=h1
  refine bind_step h1' ?_
  have hlen:((r.drop 0).take n).length = n:=by rw [List.length_take,List.length_drop]; omega
  have f0:(r.take (i + 1)).filter (fun x=>!decide (x = id)) = r.take i:=by
   rw [List.take_succ_eq_append_getElem hi,List.filter_append,notIn_filter id _ h3,h4]
   simp
  obtain ⟨w',r',q1,q2,q3,q4⟩:=del_loop n k1 r id hn hl (n - (i + 1)) (((n:Int) - ((i + 1:Nat):Int)).toNat + 1) (i + 1) i r (by omega) (by omega) (by omega) rfl rfl (by rw [f0]) (by omega)
  show (bif (decide ((i:Int) = (-1:Int))) then some (((r.drop 0).take n),()) else
    (pf72_l5x n k1 id (((((r.drop 0).take n).length:Int) - (IntKind.wrap .i64 ((i:Int) + (1:Int)))).toNat + 1) (i:Int) (IntKind.wrap .i64 ((i:Int) + (1:Int))) r).bind fun o24 =>
    bif (cutOk o24.1.1 (some o24.1.2.1) none) then bif (cutOk o24.1.1 none (some o24.1.2.1)) then some ((((setRange o24.2.2.1 (0 + (Int.toNat o24.1.2.1)) (List.replicate (cutLen o24.1.1 (some o24.1.2.1) none) (0:Int))).drop 0).take (cutLen o24.1.1 none (some o24.1.2.1))),()) else none else none) = _
  rw [dF (by omega),cond_false,hlen,wS i (by omega)]
  refine bind_step q1 ?_
  show (bif (cutOk n (some (w':Int)) none) then bif (cutOk n none (some (w':Int))) then some ((((setRange r' (0 + (Int.toNat (w':Int))) (List.replicate (cutLen n (some (w':Int)) none) (0:Int))).drop 0).take (cutLen n none (some (w':Int)))),()) else none else none) = _
  simp only [cutLo n w' q3,cutHi' n w' q3,cond_true,cutLenLo,cutLenHi,Int.toNat_natCast,Nat.zero_add,List.drop_zero]
  rw [setRange_take _ _ _ (by omega),q4]
end Go.V.G
namespace Go.V.G
open Go.Proofs
theorem comp_mem (x:Int):∀ (l:List Int),x ∈ comp l ↔ x ∈ l
 | []=>Iff.rfl
 | [a]=>Iff.rfl
 | a :: b :: l=>by
  have ih:=comp_mem x (b :: l)
  show x ∈ (if a = b then comp (b :: l) else a :: comp (b :: l)) ↔ _
  by_cases h:a = b
  ·rw [if_pos h,ih]
   subst h
   simp
  ·rw [if_neg h,List.mem_cons,ih,← List.mem_cons]
theorem comp_asc:∀ (l:List Int),l.Pairwise (fun a b=>a ≤ b) → (comp l).Pairwise (fun a b=>a < b)
 | [],_=>List.Pairwise.nil
 | [a],_=>List.pairwise_singleton _ _
 | a :: b :: l,h=>by
  have h2:=List.pairwise_cons.1 h
  have ih:=comp_asc (b :: l) h2.2
  show (if a = b then comp (b :: l) else a :: comp (b :: l)).Pairwise _
  by_cases e:a = b
  ·rw [if_pos e]; exact ih
  ·rw [if_neg e]
   refine List.pairwise_cons.2 ⟨fun x hx=>?_,ih⟩
   rw [comp_mem] at hx
   have h3:=h2.1 b (List.mem_cons_self ..)
   rcases List.mem_cons.1 hx with rfl | hx
   ·omega
   ·have:=(List.pairwise_cons.1 h2.2).1 x hx
    omega
theorem asc_ext {α:Type} (f:α → Int):∀ (a b:List α),a.Pairwise (fun x y=>f x < f y) → b.Pairwise (fun x y=>f x < f y) → (∀ x,x ∈ a ↔ x ∈ b) → a = b
 | [],[],_,_,_=>rfl
 | [],y :: b,_,_,h=>absurd ((h y).2 (List.mem_cons_self ..)) (by simp)
 | x :: a,[],_,_,h=>absurd ((h x).1 (List.mem_cons_self ..)) (by simp)
 | x :: a,y :: b,ha,hb,h=>by
  obtain ⟨a1,a2⟩:=List.pairwise_cons.1 ha
  obtain ⟨b1,b2⟩:=List.pairwise_cons.1 hb
  have exy:x = y:=by
   rcases List.mem_cons.1 ((h x).1 (List.mem_cons_self ..)) with e | hx
   ·exact e
   ·rcases List.mem_cons.1 ((h y).2 (List.mem_cons_self ..)) with e | hy
    ·exact e.symm
    ·have:=b1 x hx
     have:=a1 y hy
     omega
  subst exy
  congr 1
  refine asc_ext f a b a2 b2 fun z=>⟨fun hz=>?_,fun hz=>?_⟩
  ·rcases List.mem_cons.1 ((h z).1 (List.mem_cons_of_mem _ hz)) with rfl | h1
   ·exact absurd (a1 z hz) (by omega)
   ·exact h1
  ·rcases List.mem_cons.1 ((h z).2 (List.mem_cons_of_mem _ hz)) with rfl | h1
   ·exact absurd (b1 z hz) (by omega)
   ·exact h1
theorem sort_asc (l:List Int):(l.mergeSort fun x y=>decide (x ≤ y)).Pairwise (fun a b=>a ≤ b):=by
 have:=List.pairwise_mergeSort (le:=fun (x y:Int)=>decide (x ≤ y)) (by intro a b c; simp; omega) (by intro a b; simp; omega) l
 exact this.imp (by simp)
def nb (id:Int) (es:List Ed):List Int:=(comp (((atE es id).map (farE id)).mergeSort fun x y=>decide (x ≤ y))).filter (fun x=>!decide (x = id))
theorem nb_asc (id:Int) (es:List Ed):(nb id es).Pairwise (fun a b=>a < b):=(comp_asc _ (sort_asc _)).filter _
theorem nb_mem (id:Int) (es:List Ed) (x:Int):x ∈ nb id es ↔ x ≠ id ∧ ∃ e ∈ es,isAt id e = true ∧ farE id e = x:=by
 unfold nb
 rw [List.mem_filter,comp_mem,List.mem_mergeSort,List.mem_map]
 constructor
 ·rintro ⟨⟨e,h1,h2⟩,h3⟩
  obtain ⟨h4,h5⟩:=List.mem_filter.1 h1
  exact ⟨by simpa using h3,e,h4,h5,h2⟩
 ·rintro ⟨h3,e,h4,h5,h2⟩
  exact ⟨⟨e,List.mem_filter.2 ⟨h4,h5⟩,h2⟩,by simpa using h3⟩
theorem comp_len:∀ (l:List Int),(comp l).length ≤ l.length
 | []=>Nat.le_refl _
 | [a]=>Nat.le_refl _
 | a :: b :: l=>by
  have ih:=comp_len (b :: l)
  show (if a = b then comp (b :: l) else a :: comp (b :: l)).length ≤ _
  split
  ·simp only [List.length_cons] at ih ⊢; omega
  ·simp only [List.length_cons] at ih ⊢; omega
theorem nb_len (id:Int) (es:List Ed):(nb id es).length ≤ es.length:=by
 unfold nb
 refine Nat.le_trans (List.length_filter_le _ _) (Nat.le_trans (comp_len _) ?_)
 rw [List.length_mergeSort,List.length_map]
 exact atE_len es id
theorem comp_short (l:List Int) (h:l.length < 2):comp l = l:=by
 match l,h with
 | [],_=>rfl
 | [a],_=>rfl
theorem pf31_eq (id:Int) (es:List Ed) (h:es.length ≤ 1000):pf31 id es = some (nb id es,()):=by
 have hlen:(((atE es id).map (farE id)).mergeSort fun x y=>decide (x ≤ y)).length ≤ 1000:=by
  rw [List.length_mergeSort,List.length_map]
  exact Nat.le_trans (atE_len es id) h
 have hs:sortInts ((atE es id).map (farE id)) = some (((atE es id).map (farE id)).mergeSort fun x y=>decide (x ≤ y)):=by
  unfold sortInts
  rw [dT (by have:=atE_len es id; rw [List.length_map]; omega),cond_true]
 unfold pf31
 refine bind_step (ends_loop es id h _ (by omega)) ?_
 refine bind_step hs ?_
 show _ = some ((comp (((atE es id).map (farE id)).mergeSort fun x y=>decide (x ≤ y))).filter (fun x=>!decide (x = id)),())
 generalize (((atE es id).map (farE id)).mergeSort fun x y=>decide (x ≤ y)) = y at hlen ⊢
 by_cases hy:y.length < 2
 ·rw [dT (by omega),cond_true]
  have:=delT_eq y.length y.length y id (Nat.le_refl _) hlen
  rw [List.take_length] at this
  rw [comp_short y hy]
  exact this
 ·rw [dF (by omega),cond_false]
  rcases comp_first id y hlen (y.length - 1) (((y.length:Int) - (1:Int)).toNat + 1) 1 (by omega) (by omega) (by omega) (by omega) (comp_short _ (by rw [List.length_take]; omega)) with ⟨h1,h2⟩ | ⟨w,r',h1,h2,h3,h4⟩
  ·refine bind_step h1 ?_
   have:=delT_eq y.length y.length y id (Nat.le_refl _) hlen
   rw [List.take_length] at this
   rw [h2]
   exact this
  ·refine bind_step h1 ?_
   have:=delT_eq w r'.length r' id (by omega) (by omega)
   rw [h4] at this
   have hw:((r'.drop 0).take w).length = w:=by rw [List.length_take,List.length_drop]; omega
   show (pf125_l2x w (((r'.drop 0).take w).length:Int) w r'.length r' id (((((r'.drop 0).take w).length:Int) - (0:Int)).toNat + 1) (0:Int)).bind _ = _
   rw [hw]
   exact this
end Go.V.G
namespace Go.V.G
open Go.Proofs
def starV (v:Vx) (es:List Ed):List Vx:=(v :: (nb v.1 es).map farV).mergeSort leV
theorem distinct_of:∀ {l:List Vx},(l.map (·.1)).Nodup → distinctV l = true
 | [],_=>rfl
 | x :: l,h=>by
  rw [List.map_cons,List.nodup_cons] at h
  unfold distinctV
  rw [Bool.and_eq_true,List.all_eq_true]
  refine ⟨fun y hy=>?_,distinct_of h.2⟩
  have:x.1 ≠ y.1:=fun e=>h.1 (List.mem_map.2 ⟨y,hy,e.symm⟩)
  simp [this]
theorem star_nodup (v:Vx) (es:List Ed):((v :: (nb v.1 es).map farV).map (·.1)).Nodup:=by
 have e:(v :: (nb v.1 es).map farV).map (·.1) = v.1 :: nb v.1 es:=by
  rw [List.map_cons,List.map_map]
  congr 1
  exact List.map_id _
 rw [e,List.nodup_cons]
 refine ⟨fun h=>((nb_mem v.1 es v.1).1 h).1 rfl,?_⟩
 exact (nb_asc v.1 es).imp (fun h e=>by omega)
theorem starV_asc (v:Vx) (es:List Ed):asc kV (starV v es) = true:=by
 rw [asc_pairwise]
 have h1:(starV v es).Pairwise (fun a b=>leV a b = true):=List.pairwise_mergeSort (le:=leV) (by intro a b c; unfold leV; simp; omega) (by intro a b; unfold leV; simp; omega) _
 have h2:((starV v es).map (·.1)).Nodup:=((List.mergeSort_perm _ _).map _).nodup_iff.2 (star_nodup v es)
 have h3:(starV v es).Pairwise (fun a b=>a.1 ≠ b.1):=List.pairwise_map.1 h2
 exact (h1.and h3).imp (fun {a b} h=>by
  have h4:=h.1
  unfold leV at h4
  simp only [decide_eq_true_eq] at h4
  have h5:=h.2
  show a.1 < b.1
  omega)
theorem starV_mem (v:Vx) (es:List Ed) (x:Vx):x ∈ starV v es ↔ x = v ∨ ∃ d ∈ nb v.1 es,farV d = x:=by
 unfold starV
 rw [List.mem_mergeSort,List.mem_cons,List.mem_map]
theorem star_eq67 (v:Vx) (es:List Ed) (h:es.length ≤ 500) (hv:smallI v.1) (he:∀ e ∈ es,smallI e.2.1 ∧ smallI e.2.2.1):f67 v es = some ((starV v es,es,[],()),()):=by
 have hn:=nb_len v.1 es
 unfold f67
 refine bind_step (pf31_eq v.1 es (by omega)) ?_
 have h1:=far_rows es (nb v.1 es) [] [v] (((nb v.1 es).length:Int) - (0:Int)).toNat.succ (by omega) (by simp; omega) (by simp; omega)
 refine bind_step h1 ?_
 have hs:sortV (v :: (nb v.1 es).map farV) = some (starV v es):=by
  unfold sortV starV
  have e1:smallV (v :: (nb v.1 es).map farV) = true:=by
   unfold smallV
   rw [List.all_eq_true]
   intro x hx
   have:smallI x.1:=by
    rcases List.mem_cons.1 hx with rfl | hx
    ·exact hv
    ·obtain ⟨d,hd,rfl⟩:=List.mem_map.1 hx
     obtain ⟨_,e,h2,h3,h4⟩:=(nb_mem v.1 es d).1 hd
     have:=he e h2
     show smallI d
     rw [← h4]
     unfold farE
     split
     ·exact this.2
     ·split
      ·exact this.1
      ·unfold smallI maxI; omega
   unfold smallI maxI at this
   simp only [Bool.and_eq_true,decide_eq_true_eq]
   omega
  rw [distinct_of (star_nodup v es),e1,dT (by simp; omega)]
  rfl
 refine bind_step hs ?_
 rfl
def good (v:Vx) (es:List Ed):Bool:=okV v && asc kE es && es.all (fun e=>okE e && isAt v.1 e)
theorem star_has (v:Vx) (es:List Ed) (e:Ed) (he:e ∈ es) (ha:isAt v.1 e = true):hasV (starV v es) e.2.1 = true ∧ hasV (starV v es) e.2.2.1 = true:=by
 have hv:hasV (starV v es) v.1 = true:=List.any_eq_true.2 ⟨v,(starV_mem v es v).2 (.inl rfl),by simp⟩
 have hn:∀ d,d ∈ nb v.1 es → hasV (starV v es) d = true:=fun d hd=>List.any_eq_true.2 ⟨farV d,(starV_mem v es _).2 (.inr ⟨d,hd,rfl⟩),by simp [farV]⟩
 have hf:hasV (starV v es) (farE v.1 e) = true:=by
  by_cases h:farE v.1 e = v.1
  ·rw [h]; exact hv
  ·exact hn _ ((nb_mem v.1 es _).2 ⟨h,e,he,ha,rfl⟩)
 unfold isAt at ha
 unfold farE at hf
 simp only [Bool.or_eq_true,decide_eq_true_eq] at ha
 by_cases h1:v.1 = e.2.1
 ·rw [if_pos h1] at hf
  exact ⟨h1 ▸ hv,hf⟩
 ·rw [if_neg h1] at hf
  have h2:v.1 = e.2.2.1:=by
   rcases ha with ha | ha
   ·exact absurd ha.symm h1
   ·exact ha.symm
  rw [if_pos h2] at hf
  exact ⟨hf,h2 ▸ hv⟩
theorem star_valid (vs:List Vx) (v:Vx) (es:List Ed) (ha:∀ e ∈ es,isAt v.1 e = true) (h1:asc kV vs = true) (h2:∀ x ∈ vs,x = v ∨ x.2.1 = 0 ∧ ∃ e ∈ es,e.2.1 = x.1 ∨ e.2.2.1 = x.1) (h3:v ∈ vs) (h4:∀ e ∈ es,okE e = true → hasV vs e.2.1 = true ∧ hasV vs e.2.2.1 = true):valid (vs,es,[],()) = good v es:=by
 unfold valid good
 simp only [h1,Bool.true_and,List.length_nil,List.all_nil,Bool.and_true]
 have e0:asc kI [] = true:=rfl
 rw [e0,dT (by omega:0 ≤ 3)]
 simp only [Bool.and_true]
 apply Bool.eq_iff_iff.2
 simp only [Bool.and_eq_true,List.all_eq_true]
 constructor
 ·rintro ⟨⟨a,b⟩,c⟩
  exact ⟨⟨b v h3,a⟩,fun e he=>⟨(c e he).1.1,ha e he⟩⟩
 ·rintro ⟨⟨a,b⟩,c⟩
  refine ⟨⟨b,fun x hx=>?_⟩,fun e he=>⟨⟨(c e he).1,(h4 e he (c e he).1).1⟩,(h4 e he (c e he).1).2⟩⟩
  rcases h2 x hx with rfl | ⟨h5,e,he,h6⟩
  ·exact a
  ·have h7:=(c e he).1
   unfold okE at h7
   unfold okV
   simp only [Bool.and_eq_true,decide_eq_true_eq] at h7 ⊢
   omega
theorem starV_valid (v:Vx) (es:List Ed) (ha:∀ e ∈ es,isAt v.1 e = true):valid (starV v es,es,[],()) = good v es:=by
 refine star_valid _ v es ha (starV_asc v es) (fun x hx=>?_) ((starV_mem v es v).2 (.inl rfl)) (fun e he _=>star_has v es e he (ha e he))
 rcases (starV_mem v es x).1 hx with h | ⟨d,h1,rfl⟩
 ·exact .inl h
 ·obtain ⟨h2,e,h3,h4,h5⟩:=(nb_mem v.1 es d).1 h1
  refine .inr ⟨rfl,e,h3,?_⟩
  show e.2.1 = d ∨ e.2.2.1 = d
  rw [← h5]
  unfold farE
  unfold isAt at h4
  simp only [Bool.or_eq_true,decide_eq_true_eq] at h4
  split
  ·exact .inr rfl
  ·split
   ·exact .inl rfl
   ·rename_i h6 h7
    rcases h4 with h4 | h4
    ·exact absurd h4.symm h6
    ·exact absurd h4.symm h7
theorem starV_len (v:Vx) (es:List Ed):(starV v es).length ≤ es.length + 1:=by
 unfold starV
 rw [List.length_mergeSort,List.length_cons,List.length_map]
 have:=nb_len v.1 es
 omega
theorem star_check (v:Vx) (es:List Ed) (h:es.length ≤ 500) (hv:smallI v.1) (he:∀ e ∈ es,smallI e.2.1 ∧ smallI e.2.2.1) (ha:∀ e ∈ es,isAt v.1 e = true) :
  f46 (starV v es,es,[],()) = some (good v es,()):=by
 have h1:=starV_len v es
 rw [f46_eq (starV v es,es,[],()) (show (starV v es).length ≤ _ by omega) (show es.length ≤ _ by omega) (by simp),starV_valid v es ha]
end Go.V.G
namespace Go.V.G
open Go.Proofs
def rdI (bs:List Nat):Option (Int × List Nat):=(dec bs).map fun x=>(x.1,bs.drop x.2)
theorem rdI_some {bs:List Nat} {n:Int} {t:List Nat} (h:rdI bs = some (n,t)):smallI n ∧ bs = grpN (zig n) ++ t:=by
 unfold rdI at h
 obtain ⟨⟨m,k⟩,h1,h2⟩:=Option.map_eq_some_iff.1 h
 simp only [Prod.mk.injEq] at h2
 obtain ⟨rfl,rfl⟩:=h2
 obtain ⟨h3,h4,t,h5⟩:=dec_some h1
 refine ⟨⟨h3,dec_le h1⟩,?_⟩
 rw [h5,h4,List.drop_left']
 rfl
theorem rdI_enc {n:Int} (h:smallI n) (t:List Nat):rdI (grpN (zig n) ++ t) = some (n,t):=by
 unfold rdI
 rw [dec_enc h.1 h.2 t,Option.map_some]
 simp only [Option.some.injEq,Prod.mk.injEq,true_and]
 rw [List.drop_left']
 rfl
theorem read_cases (s:ByteArray) (hs:s.size ≤ 1099511627776) (a:Nat) (ha:a ≤ s.size) :
  (rdI ((nbytes s).drop a) = none ∧ f118 s (a:Int) = some (0,0,10,())) ∨
  ∃ (n:Int) (a':Nat),rdI ((nbytes s).drop a) = some (n,(nbytes s).drop a') ∧ f118 s (a:Int) = some (n,(a':Int),0,()) ∧ a' ≤ s.size ∧ smallI n:=by
 rw [f118_eq s hs a ha]
 unfold rdI
 cases h:dec ((nbytes s).drop a) with
 | none=>left; exact ⟨rfl,rfl⟩
 | some x =>
  obtain ⟨n,k⟩:=x
  right
  obtain ⟨h3,h4,t,h5⟩:=dec_some h
  refine ⟨n,a + k,?_,rfl,?_,h3,dec_le h⟩
  ·rw [Option.map_some,List.drop_drop]
  ·have:=congrArg List.length h5
   rw [List.length_drop,nbytes_len,List.length_append] at this
   omega
def rdE (bs:List Nat):Option (Ed × List Nat) :=
 (rdI bs).bind fun x1=>(rdI x1.2).bind fun x2=>(rdI x2.2).bind fun x3=>(rdI x3.2).bind fun x4 =>
 if x4.1 = 0 ∨ x4.1 = 1 then (rdI x4.2).bind fun x5=>(rdI x5.2).bind fun x6=>some ((x1.1,x2.1,x3.1,decide (x4.1 = 1),x5.1,x6.1,()),x6.2) else none
def rdEs:Nat → List Nat → Option (List Ed × List Nat)
 | 0,bs=>some ([],bs)
 | n + 1,bs=>(rdE bs).bind fun x=>(rdEs n x.2).bind fun y=>some (x.1 :: y.1,y.2)
def parse (bs:List Nat):Option (Vx × List Ed) :=
 (rdI bs).bind fun x=>(rdI x.2).bind fun y=>(rdI y.2).bind fun z =>
 if 0 ≤ z.1 ∧ z.1 ≤ 40 then (rdEs z.1.toNat z.2).bind fun w=>if good (x.1,y.1,()) w.1 = true ∧ w.2 = [] then some ((x.1,y.1,()),w.1) else none else none
def parsed:Option (Vx × List Ed) → Vx × List Ed × Int × Unit
 | some (v,es)=>(v,es,0,())
 | none=>((0,0,()),[],60,())
theorem rdE_some {bs:List Nat} {e:Ed} {t:List Nat} (h:rdE bs = some (e,t)):smallE e ∧ bs = nbytes (encs (six e)) ++ t:=by
 unfold rdE at h
 simp only [Option.bind_eq_some_iff] at h
 obtain ⟨⟨n1,t1⟩,h1,⟨n2,t2⟩,h2,⟨n3,t3⟩,h3,⟨n4,t4⟩,h4,h⟩:=h
 split at h
 ·rename_i h01
  simp only [Option.bind_eq_some_iff] at h
  obtain ⟨⟨n5,t5⟩,h5,⟨n6,t6⟩,h6,h⟩:=h
  simp only [Option.some.injEq,Prod.mk.injEq] at h
  obtain ⟨rfl,rfl⟩:=h
  obtain ⟨s1,e1⟩:=rdI_some h1
  obtain ⟨s2,e2⟩:=rdI_some h2
  obtain ⟨s3,e3⟩:=rdI_some h3
  obtain ⟨s4,e4⟩:=rdI_some h4
  obtain ⟨s5,e5⟩:=rdI_some h5
  obtain ⟨s6,e6⟩:=rdI_some h6
  simp only at e1 e2 e3 e4 e5 e6 h01
  have hd:(if decide (n4 = 1) = true then (1:Int) else 0) = n4:=by
   rcases h01 with rfl | rfl <;> rfl
  have h6':six (n1,n2,n3,decide (n4 = 1),n5,n6,()) = [n1,n2,n3,n4,n5,n6]:=by
   unfold six
   simp only [hd]
  unfold smallE
  rw [h6']
  refine ⟨fun n hn=>?_,?_⟩
  ·simp only [List.mem_cons,List.not_mem_nil,or_false] at hn
   rcases hn with rfl | rfl | rfl | rfl | rfl | rfl <;> assumption
  ·rw [e1,e2,e3,e4,e5,e6,nbytes_encs]
   simp only [List.flatMap_cons,List.flatMap_nil,List.append_nil,List.append_assoc]
 ·cases h
theorem rdE_enc {e:Ed} (h:smallE e) (t:List Nat):rdE (nbytes (encs (six e)) ++ t) = some (e,t):=by
 obtain ⟨n1,n2,n3,b,n5,n6,u⟩:=e
 have g (n:Int) (hn:n ∈ six (n1,n2,n3,b,n5,n6,u)):smallI n:=h n hn
 have g1:=g n1 (by simp [six])
 have g2:=g n2 (by simp [six])
 have g3:=g n3 (by simp [six])
 have g4:=g (if b = true then 1 else 0) (by simp [six])
 have g5:=g n5 (by simp [six])
 have g6:=g n6 (by simp [six])
 rw [nbytes_encs]
 unfold six
 simp only [List.flatMap_cons,List.flatMap_nil,List.append_nil,List.append_assoc]
 unfold rdE
 simp only [rdI_enc g1,rdI_enc g2,rdI_enc g3,rdI_enc g4,rdI_enc g5,rdI_enc g6,Option.bind_some]
 cases b <;> simp
theorem rdEs_some:∀ {n:Nat} {bs:List Nat} {es:List Ed} {t:List Nat},rdEs n bs = some (es,t) → es.length = n ∧ (∀ e ∈ es,smallE e) ∧ bs = nbytes (encs (es.flatMap six)) ++ t
 | 0,bs,es,t,h=>by
  simp only [rdEs,Option.some.injEq,Prod.mk.injEq] at h
  obtain ⟨rfl,rfl⟩:=h
  refine ⟨rfl,fun e he=>(by simp at he),?_⟩
  rfl
 | n + 1,bs,es,t,h=>by
  simp only [rdEs,Option.bind_eq_some_iff] at h
  obtain ⟨⟨e,t1⟩,h1,⟨l,t2⟩,h2,h3⟩:=h
  simp only [Option.some.injEq,Prod.mk.injEq] at h3
  obtain ⟨rfl,rfl⟩:=h3
  obtain ⟨h4,h5⟩:=rdE_some h1
  obtain ⟨h6,h7,h8⟩:=rdEs_some h2
  refine ⟨by simp [h6],fun x hx=>?_,?_⟩
  ·rcases List.mem_cons.1 hx with rfl | hx
   ·exact h4
   ·exact h7 x hx
  ·rw [h5]
   simp only at h8
   rw [h8,List.flatMap_cons,encs_app,nbytes_app,List.append_assoc]
theorem rdEs_enc:∀ (es:List Ed) (h:∀ e ∈ es,smallE e) (t:List Nat),rdEs es.length (nbytes (encs (es.flatMap six)) ++ t) = some (es,t)
 | [],_,t=>rfl
 | e :: es,h,t=>by
  rw [List.flatMap_cons,encs_app,nbytes_app,List.append_assoc,List.length_cons]
  simp only [rdEs]
  rw [rdE_enc (h e (List.mem_cons_self ..)),Option.bind_some]
  simp only
  rw [rdEs_enc es (fun x hx=>h x (List.mem_cons_of_mem _ hx)) t,Option.bind_some]
structure IsPage (s:ByteArray) (v:Vx) (es:List Ed):Prop where
 eq:s = encs (pageN v es)
 good:good v es = true
theorem good_small {v:Vx} {es:List Ed} (h:good v es = true):es.length ≤ 40 ∧ (∀ e ∈ es,smallE e) ∧ smallI v.1 ∧ smallI v.2.1:=by
 unfold good at h
 simp only [Bool.and_eq_true,List.all_eq_true] at h
 obtain ⟨⟨h1,h2⟩,h3⟩:=h
 refine ⟨ascF_len kE es h2 39 fun e he=>?_,fun e he=>okE_small (h3 e he).1,?_⟩
 ·have:=(h3 e he).1
  unfold okE at this
  simp only [Bool.and_eq_true,decide_eq_true_eq] at this
  show 0 ≤ e.1 ∧ e.1 ≤ 39
  omega
 ·unfold okV at h1
  simp only [Bool.and_eq_true,decide_eq_true_eq] at h1
  unfold smallI maxI
  omega
theorem parse_iff (s:ByteArray) (v:Vx) (es:List Ed):parse (nbytes s) = some (v,es) ↔ IsPage s v es:=by
 constructor
 ·intro h
  unfold parse at h
  simp only [Option.bind_eq_some_iff] at h
  obtain ⟨⟨n1,t1⟩,h1,⟨n2,t2⟩,h2,⟨n3,t3⟩,h3,h⟩:=h
  split at h
  ·rename_i h01
   simp only [Option.bind_eq_some_iff] at h
   obtain ⟨⟨l,t4⟩,h4,h⟩:=h
   split at h
   ·rename_i h5
    simp only [Option.some.injEq,Prod.mk.injEq] at h
    obtain ⟨rfl,rfl⟩:=h
    obtain ⟨s1,e1⟩:=rdI_some h1
    obtain ⟨s2,e2⟩:=rdI_some h2
    obtain ⟨s3,e3⟩:=rdI_some h3
    obtain ⟨h6,h7,h8⟩:=rdEs_some h4
    simp only at e2 e3 h8 h6 h5 h01
    refine ⟨nbytes_inj ?_,h5.1⟩
    have e6:(l.length:Int) = n3:=by omega
    rw [e1,e2,e3,h8,h5.2,nbytes_encs]
    unfold pageN
    simp only [List.flatMap_cons,e6,List.append_nil,nbytes_encs]
   ·cases h
  ·cases h
 ·rintro ⟨h1,h2⟩
  obtain ⟨h3,h4,h5,h6⟩:=good_small h2
  have h7:smallI (es.length:Int):=by unfold smallI maxI; omega
  obtain ⟨n1,n2,u⟩:=v
  rw [h1,nbytes_encs]
  unfold pageN
  simp only [List.flatMap_cons]
  unfold parse
  rw [rdI_enc h5,Option.bind_some]
  simp only
  rw [rdI_enc h6,Option.bind_some]
  simp only
  rw [rdI_enc h7,Option.bind_some]
  simp only
  have:=rdEs_enc es h4 []
  rw [List.append_nil,nbytes_encs] at this
  rw [if_pos (by omega),Int.toNat_natCast,this,Option.bind_some]
  simp only
  rw [if_pos ⟨h2,trivial⟩]
def rdDs:Nat → Int → List Nat → Option (List Int × List Nat)
 | 0,_,bs=>some ([],bs)
 | n + 1,p,bs=>(rdI bs).bind fun x=>if p < x.1 ∧ x.1 < 24 then (rdDs n x.1 x.2).bind fun y=>some (x.1 :: y.1,y.2) else none
def parseH (bs:List Nat):Option (List Int × Int) :=
 (rdI bs).bind fun x=>if 0 ≤ x.1 ∧ x.1 ≤ 3 then (rdDs x.1.toNat (-1) x.2).bind fun y=>(rdI y.2).bind fun z=>if 0 ≤ z.1 ∧ z.1 < 1099511627776 ∧ z.2 = [] then some (y.1,z.1) else none else none
def parsedH:Option (List Int × Int) → List Int × Int × Int × Unit
 | some (ds,n)=>(ds,n,0,())
 | none=>([],0,60,())
structure IsHead (s:ByteArray) (ds:List Int) (n:Int):Prop where
 eq:s = encs ((ds.length:Int) :: (ds ++ [n]))
 len:ds.length ≤ 3
 asc:asc kI ds = true
 rng:∀ d ∈ ds,0 ≤ d ∧ d ≤ 23
 lo:0 ≤ n
 hi:n < 1099511627776
theorem rdDs_some:∀ {n:Nat} {p:Int} {bs:List Nat} {ds:List Int} {t:List Nat},rdDs n p bs = some (ds,t) → ds.length = n ∧ (∀ d ∈ ds,smallI d ∧ p < d ∧ d < 24) ∧ asc kI (p :: ds) = true ∧ bs = nbytes (encs ds) ++ t
 | 0,p,bs,ds,t,h=>by
  simp only [rdDs,Option.some.injEq,Prod.mk.injEq] at h
  obtain ⟨rfl,rfl⟩:=h
  exact ⟨rfl,fun e he=>(by simp at he),rfl,rfl⟩
 | n + 1,p,bs,ds,t,h=>by
  simp only [rdDs,Option.bind_eq_some_iff] at h
  obtain ⟨⟨d,t1⟩,h1,h⟩:=h
  split at h
  ·rename_i hc
   simp only [Option.bind_eq_some_iff] at h
   obtain ⟨⟨l,t2⟩,h2,h3⟩:=h
   simp only [Option.some.injEq,Prod.mk.injEq] at h3
   obtain ⟨rfl,rfl⟩:=h3
   obtain ⟨s1,e1⟩:=rdI_some h1
   obtain ⟨h6,h7,h8,h9⟩:=rdDs_some h2
   simp only at hc h6 h7 h8 h9
   refine ⟨by simp [h6],fun x hx=>?_,?_,?_⟩
   ·rcases List.mem_cons.1 hx with rfl | hx
    ·exact ⟨s1,hc⟩
    ·have:=h7 x hx
     exact ⟨this.1,by omega,this.2.2⟩
   ·rw [asc_two,h8,Bool.and_true,decide_eq_true_eq]
    exact hc.1
   ·rw [e1,h9]
    show _ = nbytes (enc d ++ encs l) ++ t2
    rw [nbytes_app,nbytes_enc,List.append_assoc]
  ·cases h
theorem rdDs_enc:∀ (ds:List Int) (p:Int) (t:List Nat),(∀ d ∈ ds,smallI d ∧ d < 24) → asc kI (p :: ds) = true → rdDs ds.length p (nbytes (encs ds) ++ t) = some (ds,t)
 | [],_,t,_,_=>rfl
 | d :: ds,p,t,h,ha=>by
  have h0:=h d (List.mem_cons_self ..)
  rw [asc_two,Bool.and_eq_true,decide_eq_true_eq] at ha
  have e:nbytes (encs (d :: ds)) ++ t = grpN (zig d) ++ (nbytes (encs ds) ++ t):=by
   show nbytes (enc d ++ encs ds) ++ t = _
   rw [nbytes_app,nbytes_enc,List.append_assoc]
  rw [e,List.length_cons]
  simp only [rdDs]
  rw [rdI_enc h0.1,Option.bind_some]
  simp only
  have h1:p < d:=ha.1
  rw [if_pos ⟨h1,h0.2⟩,rdDs_enc ds d t (fun x hx=>h x (List.mem_cons_of_mem _ hx)) ha.2,Option.bind_some]
theorem parseH_iff (s:ByteArray) (ds:List Int) (n:Int):parseH (nbytes s) = some (ds,n) ↔ IsHead s ds n:=by
 constructor
 ·intro h
  unfold parseH at h
  simp only [Option.bind_eq_some_iff] at h
  obtain ⟨⟨m,t1⟩,h1,h⟩:=h
  split at h
  ·rename_i hc
   simp only [Option.bind_eq_some_iff] at h
   obtain ⟨⟨l,t2⟩,h2,⟨z,t3⟩,h3,h⟩:=h
   split at h
   ·rename_i hz
    simp only [Option.some.injEq,Prod.mk.injEq] at h
    obtain ⟨rfl,rfl⟩:=h
    obtain ⟨s1,e1⟩:=rdI_some h1
    obtain ⟨s3,e3⟩:=rdI_some h3
    obtain ⟨h6,h7,h8,h9⟩:=rdDs_some h2
    simp only at hc h6 h7 h8 h9 hz e3
    refine ⟨nbytes_inj ?_,by omega,?_,fun d hd=>?_,hz.1,hz.2.1⟩
    ·have e6:(l.length:Int) = m:=by omega
     rw [e1,h9,e3,hz.2.2,e6]
     show _ = nbytes (enc m ++ encs (l ++ [z]))
     rw [nbytes_app,nbytes_enc,encs_app,nbytes_app]
     show _ = grpN (zig m) ++ (nbytes (encs l) ++ nbytes (enc z ++ encs []))
     rw [nbytes_app,nbytes_enc]
     rfl
    ·exact (asc_pairwise kI).2 (List.pairwise_cons.1 ((asc_pairwise kI).1 h8)).2
    ·have:=h7 d hd
     omega
   ·cases h
  ·cases h
 ·rintro ⟨h1,h2,h3,h4,h5,h6⟩
  have h7:smallI (ds.length:Int):=by unfold smallI maxI; omega
  have h8:smallI n:=by unfold smallI maxI; omega
  have e:nbytes s = grpN (zig (ds.length:Int)) ++ (nbytes (encs ds) ++ (grpN (zig n) ++ [])):=by
   rw [h1]
   show nbytes (enc (ds.length:Int) ++ encs (ds ++ [n])) = _
   rw [nbytes_app,nbytes_enc,encs_app,nbytes_app]
   show grpN (zig (ds.length:Int)) ++ (nbytes (encs ds) ++ nbytes (enc n ++ encs [])) = _
   rw [nbytes_app,nbytes_enc]
   rfl
  have ha:Go.V.G.asc kI ((-1) :: ds) = true:=by
   refine (asc_pairwise kI).2 (List.pairwise_cons.2 ⟨fun d hd=>?_,(asc_pairwise kI).1 h3⟩)
   have:=h4 d hd
   show (-1:Int) < d
   omega
  unfold parseH
  rw [e,rdI_enc h7,Option.bind_some]
  simp only
  rw [if_pos (by omega),Int.toNat_natCast,rdDs_enc ds (-1) _ (fun d hd=>by have:=h4 d hd; exact ⟨by unfold smallI maxI; omega,by omega⟩) ha,Option.bind_some]
  simp only
  rw [rdI_enc h8,Option.bind_some]
  simp only
  rw [if_pos ⟨h5,h6,trivial⟩]
end Go.V.G
namespace Go.V.G
open Go.Proofs
theorem edges_read (s:ByteArray) (hs:s.size ≤ 1099511627776) (m k2 v0 v1:Int) (bo:Bool) (x0 x1:Int):∀ (n k a j:Nat) (acc:List Ed),a ≤ s.size → acc.length ≤ j → j + n ≤ 1000 → m = ((j + n:Nat):Int) → n < k →
  (rdEs n ((nbytes s).drop a) = none ∧ ∃ o,o.2.2.1.1 = bo ∧ f59_l4x m s k2 s v0 v1 bo x0 x1 k (j:Int) (a:Int) acc = some (.inr o)) ∨
  ∃ (es:List Ed) (a':Nat),rdEs n ((nbytes s).drop a) = some (es,(nbytes s).drop a') ∧ a' ≤ s.size ∧ f59_l4x m s k2 s v0 v1 bo x0 x1 k (j:Int) (a:Int) acc = some (.inl ((),((s,()),(),(k2,()),()),((v0,v1,()),(),(bo,()),(s,(a':Int),()),(x0,x1,()),acc ++ es,())))
 | 0,k,a,j,acc,ha,hacc,hj,hm,hk=>by
  obtain ⟨k,rfl⟩:∃ q,k = q + 1:=⟨k - 1,by omega⟩
  right
  refine ⟨[],a,rfl,ha,?_⟩
  have e1:decide ((j:Int) < m) = false:=by subst hm; simp
  unfold f59_l4x
  rw [e1,List.append_nil]
  rfl
 | n + 1,k,a,j,acc,ha,hacc,hj,hm,hk=>by
  obtain ⟨k,rfl⟩:∃ q,k = q + 1:=⟨k - 1,by omega⟩
  have e1:decide ((j:Int) < m) = true:=by subst hm; simp; omega
  have hu:=f59_l4x.eq_2 m s k2 s v0 v1 bo x0 x1 (j:Int) (a:Int) acc k
  rw [e1,cond_true] at hu
  rcases read_cases s hs a ha with ⟨r1,g1⟩ | ⟨n1,a1,r1,g1,l1,q1⟩
  ·exact .inl ⟨by simp [rdEs,rdE,r1],_,rfl,hu.trans (bind_step g1 rfl)⟩
  rcases read_cases s hs a1 l1 with ⟨r2,g2⟩ | ⟨n2,a2,r2,g2,l2,q2⟩
  ·exact .inl ⟨by simp [rdEs,rdE,r1,r2],_,rfl,hu.trans (bind_step g1 (bind_step g2 rfl))⟩
  rcases read_cases s hs a2 l2 with ⟨r3,g3⟩ | ⟨n3,a3,r3,g3,l3,q3⟩
  ·exact .inl ⟨by simp [rdEs,rdE,r1,r2,r3],_,rfl,hu.trans (bind_step g1 (bind_step g2 (bind_step g3 rfl)))⟩
  rcases read_cases s hs a3 l3 with ⟨r4,g4⟩ | ⟨n4,a4,r4,g4,l4,q4⟩
  ·exact .inl ⟨by simp [rdEs,rdE,r1,r2,r3,r4],_,rfl,hu.trans (bind_step g1 (bind_step g2 (bind_step g3 (bind_step g4 rfl))))⟩
  have hu':=hu.trans (bind_step g1 (bind_step g2 (bind_step g3 (bind_step g4 rfl))))
  clear hu
  simp only [decide_true,Bool.not_true,cond_false] at hu'
  by_cases h0:n4 = 0
  ·subst h0
   rw [show decide ((0:Int) = 0) = true from rfl,cond_true] at hu'
   rcases read_cases s hs a4 l4 with ⟨r5,g5⟩ | ⟨n5,a5,r5,g5,l5,q5⟩
   ·exact .inl ⟨by simp [rdEs,rdE,r1,r2,r3,r4,r5],_,rfl,hu'.trans (bind_step g5 rfl)⟩
   rcases read_cases s hs a5 l5 with ⟨r6,g6⟩ | ⟨n6,a6,r6,g6,l6,q6⟩
   ·exact .inl ⟨by simp [rdEs,rdE,r1,r2,r3,r4,r5,r6],_,rfl,hu'.trans (bind_step g5 (bind_step g6 rfl))⟩
   have q:decide (acc.length + ([(n1,n2,n3,false,n5,n6,())]:List Ed).length ≤ appLim) = true:=appOk _ _ (by simp; omega)
   have hE:rdE ((nbytes s).drop a) = some ((n1,n2,n3,false,n5,n6,()),(nbytes s).drop a6):=by simp [rdE,r1,r2,r3,r4,r5,r6]
   have hs1:f59_l4x m s k2 s v0 v1 bo x0 x1 (k + 1) (j:Int) (a:Int) acc = f59_l4x m s k2 s v0 v1 bo x0 x1 k ((j + 1:Nat):Int) (a6:Int) (acc ++ [(n1,n2,n3,false,n5,n6,())]):=by
    refine hu'.trans (bind_step g5 (bind_step g6 ?_))
    simp only [decide_true,Bool.not_true,cond_false,show decide ((0:Int) = 1) = false from rfl,q,cond_true,wS j (by omega)]
   rcases edges_read s hs m k2 v0 v1 bo x0 x1 n k a6 (j + 1) (acc ++ [(n1,n2,n3,false,n5,n6,())]) l6 (by simp; omega) (by omega) (by omega) (by omega) with ⟨h1,o,ho,h2⟩ | ⟨es,a',h1,h2,h3⟩
   ·exact .inl ⟨by simp [rdEs,hE,h1],o,ho,hs1.trans h2⟩
   ·refine .inr ⟨(n1,n2,n3,false,n5,n6,()) :: es,a',by simp [rdEs,hE,h1],h2,hs1.trans (h3.trans ?_)⟩
    rw [List.append_assoc]
    rfl
  ·rw [dF h0,cond_false] at hu'
   by_cases h1':n4 = 1
   ·subst h1'
    rw [show decide ((1:Int) = 1) = true from rfl,Bool.not_true,cond_false] at hu'
    rcases read_cases s hs a4 l4 with ⟨r5,g5⟩ | ⟨n5,a5,r5,g5,l5,q5⟩
    ·exact .inl ⟨by simp [rdEs,rdE,r1,r2,r3,r4,r5],_,rfl,hu'.trans (bind_step g5 rfl)⟩
    rcases read_cases s hs a5 l5 with ⟨r6,g6⟩ | ⟨n6,a6,r6,g6,l6,q6⟩
    ·exact .inl ⟨by simp [rdEs,rdE,r1,r2,r3,r4,r5,r6],_,rfl,hu'.trans (bind_step g5 (bind_step g6 rfl))⟩
    have q:decide (acc.length + ([(n1,n2,n3,true,n5,n6,())]:List Ed).length ≤ appLim) = true:=appOk _ _ (by simp; omega)
    have hE:rdE ((nbytes s).drop a) = some ((n1,n2,n3,true,n5,n6,()),(nbytes s).drop a6):=by simp [rdE,r1,r2,r3,r4,r5,r6]
    have hs1:f59_l4x m s k2 s v0 v1 bo x0 x1 (k + 1) (j:Int) (a:Int) acc = f59_l4x m s k2 s v0 v1 bo x0 x1 k ((j + 1:Nat):Int) (a6:Int) (acc ++ [(n1,n2,n3,true,n5,n6,())]):=by
     refine hu'.trans (bind_step g5 (bind_step g6 ?_))
     simp only [decide_true,Bool.not_true,cond_false,q,cond_true,wS j (by omega)]
    rcases edges_read s hs m k2 v0 v1 bo x0 x1 n k a6 (j + 1) (acc ++ [(n1,n2,n3,true,n5,n6,())]) l6 (by simp; omega) (by omega) (by omega) (by omega) with ⟨h1,o,ho,h2⟩ | ⟨es,a',h1,h2,h3⟩
    ·exact .inl ⟨by simp [rdEs,hE,h1],o,ho,hs1.trans h2⟩
    ·refine .inr ⟨(n1,n2,n3,true,n5,n6,()) :: es,a',by simp [rdEs,hE,h1],h2,hs1.trans (h3.trans ?_)⟩
     rw [List.append_assoc]
     rfl
   ·rw [dF h1',Bool.not_false,cond_true] at hu'
    exact .inl ⟨by simp [rdEs,rdE,r1,r2,r3,r4,h0,h1'],_,rfl,hu'⟩
def nonneg (e:Ed):Bool:=decide (0 ≤ e.2.1) && decide (0 ≤ e.2.2.1)
theorem neg_read (z1 z2:Bool) (s:ByteArray) (z4:Int) (es:List Ed) (hl:es.length ≤ 1000) (v0 v1:Int) (bo:Bool) (t:ByteArray) (a x0 x1:Int) (k:Nat) (hk:es.length < k) :
  (es.all nonneg = true ∧ f119_l2x (es.length:Int) z1 z2 s z4 es v0 v1 bo t a x0 x1 k 0 = some (.inl ((),((z1,()),(z2,()),(s,()),(),(z4,()),()),((v0,v1,()),(),(bo,()),(t,a,()),(x0,x1,()),es,())))) ∨
  (es.all nonneg = false ∧ ∃ i:Nat,f119_l2x (es.length:Int) z1 z2 s z4 es v0 v1 bo t a x0 x1 k 0 = some (.inr (((i:Int),()),((z1,()),(z2,()),(s,()),(),(z4,()),()),((v0,v1,()),(),(bo,()),(t,a,()),(x0,x1,()),es,())))):=by
 have h:=find_loop tE nonneg (fun k j=>f119_l2x (es.length:Int) z1 z2 s z4 es v0 v1 bo t a x0 x1 k j) (.inl ((),((z1,()),(z2,()),(s,()),(),(z4,()),()),((v0,v1,()),(),(bo,()),(t,a,()),(x0,x1,()),es,()))) (fun i=>.inr (((i:Int),()),((z1,()),(z2,()),(s,()),(),(z4,()),()),((v0,v1,()),(),(bo,()),(t,a,()),(x0,x1,()),es,()))) es (by
  intro k j
  show f119_l2x (es.length:Int) z1 z2 s z4 es v0 v1 bo t a x0 x1 (k + 1) (j:Int) = _
  conv=>lhs; unfold f119_l2x
  by_cases hj:j < es.length
  ·have e1:decide ((j:Int) < (es.length:Int)) = true:=by simp; omega
   have hget:at_ tE es (j:Int) = es[j]:=atN tE es j hj
   have h4:f65 es[j] = some (!nonneg es[j],()):=by
    unfold f65 nonneg
    simp only [Option.some.injEq,Prod.mk.injEq,and_true]
    by_cases c1:0 ≤ es[j].2.1 <;> by_cases c2:0 ≤ es[j].2.2.1
    ·rw [dF (by split <;> omega),dT c1,dT c2]; rfl
    ·rw [dT (by split <;> omega),dT c1,dF c2]; rfl
    ·rw [dT (by split <;> omega),dF c1]; rfl
    ·rw [dT (by split <;> omega),dF c1]; rfl
   rw [e1,inRN,dT hj,hget,wS j (by omega),dif_pos hj]
   rw [cond_true,cond_true]
   refine bind_step h4 ?_
   cases nonneg es[j] <;> rfl
  ·have e1:decide ((j:Int) < (es.length:Int)) = false:=by simp; omega
   rw [dif_neg hj,e1]; rfl)
 rcases h es.length k 0 (by omega) hk with ⟨h1,h2⟩ | ⟨h1,i,_,_,h2⟩
 ·exact .inl ⟨h1,h2⟩
 ·exact .inr ⟨h1,i,h2⟩
theorem far_read (z1 z2:Bool) (s:ByteArray) (z4:Int) (es:List Ed) (hl:es.length ≤ 1000) (v0 v1:Int) (bo:Bool) (t:ByteArray) (a x0 x1:Int) (k:Nat) (hk:es.length < k) :
  ((es.all fun e=>decide (0 ≤ farE v0 e)) = true ∧ f119_l2y (es.length:Int) z1 z2 s z4 es v0 v1 bo t a x0 x1 k 0 = some (.inl ((),((z1,()),(z2,()),(s,()),(),(z4,()),()),((v0,v1,()),(),(bo,()),(t,a,()),(x0,x1,()),es,())))) ∨
  ((es.all fun e=>decide (0 ≤ farE v0 e)) = false ∧ ∃ i:Nat,f119_l2y (es.length:Int) z1 z2 s z4 es v0 v1 bo t a x0 x1 k 0 = some (.inr (((i:Int),()),((z1,()),(z2,()),(s,()),(),(z4,()),()),((v0,v1,()),(),(bo,()),(t,a,()),(x0,x1,()),es,())))):=by
 have h:=find_loop tE (fun e=>decide (0 ≤ farE v0 e)) (fun k j=>f119_l2y (es.length:Int) z1 z2 s z4 es v0 v1 bo t a x0 x1 k j) (.inl ((),((z1,()),(z2,()),(s,()),(),(z4,()),()),((v0,v1,()),(),(bo,()),(t,a,()),(x0,x1,()),es,()))) (fun i=>.inr (((i:Int),()),((z1,()),(z2,()),(s,()),(),(z4,()),()),((v0,v1,()),(),(bo,()),(t,a,()),(x0,x1,()),es,()))) es (by
  intro k j
  show f119_l2y (es.length:Int) z1 z2 s z4 es v0 v1 bo t a x0 x1 (k + 1) (j:Int) = _
  conv=>lhs; unfold f119_l2y
  by_cases hj:j < es.length
  ·have e1:decide ((j:Int) < (es.length:Int)) = true:=by simp; omega
   have hget:at_ tE es (j:Int) = es[j]:=atN tE es j hj
   rw [e1,inRN,dT hj,hget,wS j (by omega),dif_pos hj]
   rw [cond_true,cond_true]
   refine bind_step (f64_eq es[j] v0) ?_
   by_cases hc:0 ≤ farE v0 es[j]
   ·rw [if_pos (dT hc),dF (by show ¬ farE v0 es[j] < 0; omega)]; rfl
   ·rw [if_neg (by simp [hc]),dT (by show farE v0 es[j] < 0; omega)]; rfl
  ·have e1:decide ((j:Int) < (es.length:Int)) = false:=by simp; omega
   rw [dif_neg hj,e1]; rfl)
 rcases h es.length k 0 (by omega) hk with ⟨h1,h2⟩ | ⟨h1,i,_,_,h2⟩
 ·exact .inl ⟨h1,h2⟩
 ·exact .inr ⟨h1,i,h2⟩
theorem f25_eq (s:ByteArray) (hs:s.size ≤ 1099511627776):f25 s = some (parsed (parse (nbytes s))):=by
 unfold f25 parse
 rcases read_cases s hs 0 (Nat.zero_le _) with ⟨r1,g1⟩ | ⟨n1,a1,r1,g1,l1,q1⟩
 ·rw [List.drop_zero] at r1
  rw [r1]
  exact bind_step g1 rfl
 rw [List.drop_zero] at r1
 rw [r1,Option.bind_some]
 refine bind_step g1 ?_
 rcases read_cases s hs a1 l1 with ⟨r2,g2⟩ | ⟨n2,a2,r2,g2,l2,q2⟩
 ·simp only [r2]
  exact bind_step g2 rfl
 simp only [r2,Option.bind_some]
 refine bind_step g2 ?_
 rcases read_cases s hs a2 l2 with ⟨r3,g3⟩ | ⟨n3,a3,r3,g3,l3,q3⟩
 ·simp only [r3]
  exact bind_step g3 rfl
 simp only [r3,Option.bind_some]
 refine bind_step g3 ?_
 by_cases c1:0 ≤ n3
 ·by_cases c2:n3 ≤ 40
  ·rw [if_pos ⟨c1,c2⟩]
   rcases edges_read s hs n3 0 n1 n2 false 0 0 n3.toNat ((n3 - (0:Int)).toNat + 1) a3 0 [] l3 (by simp) (by omega) (by omega) (by omega) with ⟨h1,o,ho,h2⟩ | ⟨es,a4,h1,h2,h3⟩
   ·have h2':f59_l4x n3 s (0:Int) s n1 n2 false 0 0 ((n3 - (0:Int)).toNat + 1) (0:Int) (a3:Int) [] = _:=h2
    rw [h1,Option.bind_none]
    simp only [dT (show n3 ≥ 0 from c1),dT c2,decide_true,Bool.not_true,cond_false,cond_true]
    refine bind_step h2' ?_
    show (bif o.2.2.1.1 then _ else _) = _
    rw [ho]
    rfl
   ·have h3':f59_l4x n3 s (0:Int) s n1 n2 false 0 0 ((n3 - (0:Int)).toNat + 1) (0:Int) (a3:Int) [] = _:=h3
    rw [List.nil_append] at h3'
    obtain ⟨e1,e2,e3⟩:=rdEs_some h1
    have hlen:es.length ≤ 40:=by omega
    have hse:∀ e ∈ es,smallI e.2.1 ∧ smallI e.2.2.1:=fun e he=>⟨e2 e he _ (by simp [six]),e2 e he _ (by simp [six])⟩
    rw [h1,Option.bind_some]
    simp only [dT (show n3 ≥ 0 from c1),dT c2,decide_true,Bool.not_true,cond_false,cond_true]
    refine bind_step h3' ?_
    have hend:decide ((a4:Int) = (s.size:Int)) = decide ((nbytes s).drop a4 = []):=by
     apply decide_eq_decide.2
     rw [List.drop_eq_nil_iff,nbytes_len]
     omega
    have bad:∀ o:Bool,(bif o then (some ((0,(0,())),[],(60:Int),()):Option (Vx × List Ed × Int × Unit)) else some ((0,(0,())),[],(60:Int),())) = some (parsed none):=fun o=>by cases o <;> rfl
    have gv:good (n1,n2,()) es = true → 0 ≤ n1 ∧ n1 < 24 ∧ es.all nonneg = true ∧ (es.all fun e=>decide (0 ≤ farE n1 e)) = true:=by
     intro hg
     unfold good okV at hg
     simp only [Bool.and_eq_true,List.all_eq_true,decide_eq_true_eq] at hg
     obtain ⟨⟨g1,g2⟩,g3⟩:=hg
     have hb:∀ e ∈ es,0 ≤ e.2.1 ∧ 0 ≤ e.2.2.1 ∧ (e.2.1 = n1 ∨ e.2.2.1 = n1):=fun e he=>by
      obtain ⟨x1,x2⟩:=g3 e he
      unfold okE at x1
      unfold isAt at x2
      simp only [Bool.and_eq_true,Bool.or_eq_true,decide_eq_true_eq] at x1 x2
      omega
     refine ⟨by omega,by omega,List.all_eq_true.2 fun e he=>?_,List.all_eq_true.2 fun e he=>?_⟩
     ·have:=hb e he
      unfold nonneg
      simp only [Bool.and_eq_true,decide_eq_true_eq]
      omega
     ·have:=hb e he
      rw [decide_eq_true_eq]
      unfold farE
      split
      ·omega
      ·split <;> omega
    show (bif decide (n1 ≥ 0) then (bif decide (n1 < 24) then Option.bind (f119_l2x (es.length:Int) false true s 0 es n1 n2 false s (a4:Int) 0 0 (((es.length:Int) - (0:Int)).toNat + 1) 0) _ else _) else _) = _
    by_cases c3:n1 ≥ 0
    ·rw [dT c3,cond_true]
     by_cases c4:n1 < 24
     ·rw [dT c4,cond_true]
      rcases neg_read false true s 0 es (by omega) n1 n2 false s a4 0 0 (((es.length:Int) - (0:Int)).toNat + 1) (by omega) with ⟨x1,x2⟩ | ⟨x1,i,x2⟩
      ·refine bind_step x2 ?_
       show Option.bind (f119_l2y (es.length:Int) false true s 0 es n1 n2 false s (a4:Int) 0 0 (((es.length:Int) - (0:Int)).toNat + 1) 0) _ = _
       rcases far_read false true s 0 es (by omega) n1 n2 false s a4 0 0 (((es.length:Int) - (0:Int)).toNat + 1) (by omega) with ⟨y1,y2⟩ | ⟨y1,i,y2⟩
       ·refine bind_step y2 ?_
        show Option.bind (f67 (n1,n2,()) es) _ = _
        have hat:∀ e ∈ es,isAt n1 e = true:=fun e he=>by
         have z1:=List.all_eq_true.1 y1 e he
         rw [decide_eq_true_eq] at z1
         unfold farE at z1
         unfold isAt
         simp only [Bool.or_eq_true,decide_eq_true_eq]
         split at z1
         ·rename_i c; exact .inl c.symm
         ·split at z1
          ·rename_i c; exact .inr c.symm
          ·omega
        refine bind_step (star_eq67 (n1,n2,()) es (by omega) q1 hse) ?_
        refine bind_step (star_check (n1,n2,()) es (by omega) q1 hse hat) ?_
        show (bif !good (n1,n2,()) es then _ else (bif decide ((a4:Int) = (s.size:Int)) then some ((n1,n2,()),es,(0:Int),()) else _)) = _
        cases hg:good (n1,n2,()) es with
        | false =>
         rw [if_neg (fun h=>by cases h.1)]
         exact bad false
        | true =>
         rw [hend]
         by_cases c5:(nbytes s).drop a4 = []
         ·rw [dT c5,if_pos ⟨rfl,c5⟩]; rfl
         ·rw [dF c5,if_neg (fun h=>c5 h.2)]; rfl
       ·refine bind_step y2 ?_
        rw [if_neg (fun h=>by have:=(gv h.1).2.2.2; rw [y1] at this; cases this)]
        exact bad false
      ·refine bind_step x2 ?_
       rw [if_neg (fun h=>by have:=(gv h.1).2.2.1; rw [x1] at this; cases this)]
       exact bad false
     ·rw [dF c4,cond_false,if_neg (fun h=>c4 (gv h.1).2.1)]
      exact bad false
    ·rw [dF c3,cond_false,if_neg (fun h=>c3 (gv h.1).1)]
     exact bad false
  ·rw [if_neg (fun h=>c2 h.2)]
   simp only [dT (show n3 ≥ 0 from c1),dF c2,decide_true,Bool.not_true,Bool.not_false,cond_false,cond_true]
   rfl
 ·rw [if_neg (fun h=>c1 h.1)]
  simp only [dF (show ¬ n3 ≥ 0 from c1),decide_true,Bool.not_true,Bool.not_false,cond_false,cond_true]
  rfl
end Go.V.G
namespace Go.V.G
open Go.Proofs
theorem dues_read (s:ByteArray) (hs:s.size ≤ 1099511627776) (m z3 z4 b6:Int) (bo:Bool):∀ (n k a j:Nat) (prev:Int) (acc:List Int),a ≤ s.size → acc.length ≤ j → j + n ≤ 1000 → m = ((j + n:Nat):Int) → n < k →
  (rdDs n prev ((nbytes s).drop a) = none ∧ ∃ o,o.2.2.1.1 = bo ∧ f70_l4x m s z3 z4 s b6 bo k prev (j:Int) (a:Int) acc = some (.inr o)) ∨
  ∃ (ds:List Int) (a':Nat),rdDs n prev ((nbytes s).drop a) = some (ds,(nbytes s).drop a') ∧ a' ≤ s.size ∧ f70_l4x m s z3 z4 s b6 bo k prev (j:Int) (a:Int) acc = some (.inl ((),((s,()),(),(z3,z4,()),()),((s,(a':Int),()),(b6,()),(bo,()),(),acc ++ ds,())))
 | 0,k,a,j,prev,acc,ha,hacc,hj,hm,hk=>by
  obtain ⟨k,rfl⟩:∃ q,k = q + 1:=⟨k - 1,by omega⟩
  right
  refine ⟨[],a,rfl,ha,?_⟩
  have e1:decide ((j:Int) < m) = false:=by subst hm; simp
  unfold f70_l4x
  rw [e1,List.append_nil]
  rfl
 | n + 1,k,a,j,prev,acc,ha,hacc,hj,hm,hk=>by
  obtain ⟨k,rfl⟩:∃ q,k = q + 1:=⟨k - 1,by omega⟩
  have e1:decide ((j:Int) < m) = true:=by subst hm; simp; omega
  have hu:=f70_l4x.eq_2 m s z3 z4 s b6 bo prev (j:Int) (a:Int) acc k
  rw [e1,cond_true] at hu
  rcases read_cases s hs a ha with ⟨r1,g1⟩ | ⟨d,a1,r1,g1,l1,q1⟩
  ·exact .inl ⟨by simp [rdDs,r1],_,rfl,hu.trans (bind_step g1 rfl)⟩
  have hu':=hu.trans (bind_step g1 rfl)
  clear hu
  simp only [decide_true,Bool.not_true,cond_false] at hu'
  by_cases c1:prev < d
  ·by_cases c2:d < 24
   ·have q:decide (acc.length + ([d]:List Int).length ≤ appLim) = true:=appOk _ _ (by simp; omega)
    have hs1:f70_l4x m s z3 z4 s b6 bo (k + 1) prev (j:Int) (a:Int) acc = f70_l4x m s z3 z4 s b6 bo k d ((j + 1:Nat):Int) (a1:Int) (acc ++ [d]):=by
     rw [hu']
     simp only [dT c1,dT c2,Bool.not_true,cond_false,q,cond_true,wS j (by omega)]
    rcases dues_read s hs m z3 z4 b6 bo n k a1 (j + 1) d (acc ++ [d]) l1 (by simp; omega) (by omega) (by omega) (by omega) with ⟨h1,o,ho,h2⟩ | ⟨ds,a',h1,h2,h3⟩
    ·exact .inl ⟨by simp [rdDs,r1,c1,c2,h1],o,ho,hs1.trans h2⟩
    ·refine .inr ⟨d :: ds,a',by simp [rdDs,r1,c1,c2,h1],h2,hs1.trans (h3.trans ?_)⟩
     rw [List.append_assoc]
     rfl
   ·rw [dT c1,dF c2,Bool.not_false,cond_true,cond_true] at hu'
    exact .inl ⟨by simp [rdDs,r1,c1,c2],_,rfl,hu'⟩
  ·rw [dF c1,cond_false] at hu'
   exact .inl ⟨by simp [rdDs,r1,c1],_,rfl,hu'⟩
theorem f27_eq (s:ByteArray) (hs:s.size ≤ 1099511627776):f27 s = some (parsedH (parseH (nbytes s))):=by
 unfold f27 parseH
 have bad:∀ o:Bool,(bif o then (some ([],(0:Int),(60:Int),()):Option (List Int × Int × Int × Unit)) else some ([],(0:Int),(60:Int),())) = some (parsedH none):=fun o=>by cases o <;> rfl
 rcases read_cases s hs 0 (Nat.zero_le _) with ⟨r1,g1⟩ | ⟨n1,a1,r1,g1,l1,q1⟩
 ·rw [List.drop_zero] at r1
  rw [r1]
  exact bind_step g1 rfl
 rw [List.drop_zero] at r1
 rw [r1,Option.bind_some]
 refine bind_step g1 ?_
 by_cases c1:0 ≤ n1
 ·by_cases c2:n1 ≤ 3
  ·rw [if_pos ⟨c1,c2⟩]
   simp only [dT (show n1 ≥ 0 from c1),dT c2,decide_true,Bool.not_true,cond_false,cond_true]
   rcases dues_read s hs n1 0 0 0 false n1.toNat ((n1 - (0:Int)).toNat + 1) a1 0 (-1) [] l1 (by simp) (by omega) (by omega) (by omega) with ⟨h1,o,ho,h2⟩ | ⟨ds,a4,h1,h2,h3⟩
   ·have h2':f70_l4x n1 s 0 0 s 0 false ((n1 - (0:Int)).toNat + 1) (-1:Int) (0:Int) (a1:Int) [] = _:=h2
    rw [h1,Option.bind_none]
    refine bind_step h2' ?_
    show (bif o.2.2.1.1 then _ else _) = _
    rw [ho]
    rfl
   ·have h3':f70_l4x n1 s 0 0 s 0 false ((n1 - (0:Int)).toNat + 1) (-1:Int) (0:Int) (a1:Int) [] = _:=h3
    rw [List.nil_append] at h3'
    rw [h1,Option.bind_some]
    refine bind_step h3' ?_
    show Option.bind (f118 s (a4:Int)) _ = some (parsedH ((rdI ((nbytes s).drop a4)).bind _))
    rcases read_cases s hs a4 h2 with ⟨r2,g2⟩ | ⟨n2,a2,r2,g2,l2,q2⟩
    ·rw [r2,Option.bind_none]
     exact bind_step g2 rfl
    rw [r2,Option.bind_some]
    refine bind_step g2 ?_
    show (bif decide (n2 ≥ 0) then (bif !decide (n2 < 1099511627776) then _ else (bif decide ((a2:Int) = (s.size:Int)) then some (ds,n2,(0:Int),()) else _)) else _) = _
    have hend:decide ((a2:Int) = (s.size:Int)) = decide ((nbytes s).drop a2 = []):=by
     apply decide_eq_decide.2
     rw [List.drop_eq_nil_iff,nbytes_len]
     omega
    by_cases c3:0 ≤ n2
    ·by_cases c4:n2 < 1099511627776
     ·rw [dT (show n2 ≥ 0 from c3),dT c4,hend]
      by_cases c5:(nbytes s).drop a2 = []
      ·rw [dT c5,if_pos ⟨c3,c4,c5⟩]; rfl
      ·rw [dF c5,if_neg (fun h=>c5 h.2.2)]; rfl
     ·rw [dT (show n2 ≥ 0 from c3),dF c4,if_neg (fun h=>c4 h.2.1)]
      exact bad false
    ·rw [dF (show ¬ n2 ≥ 0 from c3),if_neg (fun h=>c3 h.1)]
     exact bad false
  ·rw [if_neg (fun h=>c2 h.2)]
   simp only [dT (show n1 ≥ 0 from c1),dF c2,decide_true,Bool.not_true,Bool.not_false,cond_false,cond_true]
   rfl
 ·rw [if_neg (fun h=>c1 h.1)]
  simp only [dF (show ¬ n1 ≥ 0 from c1),decide_true,Bool.not_true,Bool.not_false,cond_false,cond_true]
  rfl
end Go.V.G
namespace Go.V.G
open Go.Proofs
def rdN:Nat → List Nat → Option (List Int)
 | _,[]=>some []
 | 0,_ :: _=>none
 | n + 1,b :: bs=>(rdI (b :: bs)).bind fun x=>(rdN n x.2).bind fun l=>some (x.1 :: l)
theorem rdN_some:∀ {n:Nat} {bs:List Nat} {l:List Int},rdN n bs = some l → l.length ≤ n ∧ (∀ x ∈ l,smallI x) ∧ bs = nbytes (encs l)
 | n,[],l,h=>by
  have:l = []:=by cases n <;> (simp only [rdN,Option.some.injEq] at h; exact h.symm)
  subst this
  exact ⟨Nat.zero_le _,fun x hx=>(by simp at hx),rfl⟩
 | 0,_ :: _,l,h=>by cases h
 | n + 1,b :: bs,l,h=>by
  simp only [rdN,Option.bind_eq_some_iff] at h
  obtain ⟨⟨x,t⟩,h1,m,h2,h3⟩:=h
  simp only [Option.some.injEq] at h3
  subst h3
  obtain ⟨s1,e1⟩:=rdI_some h1
  obtain ⟨a1,a2,a3⟩:=rdN_some h2
  refine ⟨by simp; omega,fun y hy=>?_,?_⟩
  ·rcases List.mem_cons.1 hy with rfl | hy
   ·exact s1
   ·exact a2 y hy
  ·rw [e1]
   show _ = nbytes (enc x ++ encs m)
   rw [nbytes_app,nbytes_enc,← a3]
theorem grpN_cons (z:Nat):∃ b bs,grpN z = b :: bs:=by
 unfold grpN
 split <;> exact ⟨_,_,rfl⟩
theorem rdN_enc:∀ {l:List Int} {n:Nat},(∀ x ∈ l,smallI x) → l.length ≤ n → rdN n (nbytes (encs l)) = some l
 | [],n,_,_=>by cases n <;> rfl
 | x :: l,0,_,h=>by simp at h
 | x :: l,n + 1,hs,h=>by
  have e:nbytes (encs (x :: l)) = grpN (zig x) ++ nbytes (encs l):=by
   show nbytes (enc x ++ encs l) = _
   rw [nbytes_app,nbytes_enc]
  have h1:=rdI_enc (hs x (List.mem_cons_self ..)) (nbytes (encs l))
  obtain ⟨b,bs,hb⟩:=grpN_cons (zig x)
  rw [e]
  rw [hb,List.cons_append] at h1 ⊢
  simp only [rdN]
  rw [h1,Option.bind_some]
  simp only
  rw [rdN_enc (fun y hy=>hs y (List.mem_cons_of_mem _ hy)) (by simp at h; omega),Option.bind_some]
theorem encs_inj {a b:List Int} (ha:∀ x ∈ a,smallI x) (hb:∀ x ∈ b,smallI x) (h:encs a = encs b):a = b:=by
 have h1:=rdN_enc ha (Nat.le_max_left a.length b.length)
 have h2:=rdN_enc hb (Nat.le_max_right a.length b.length)
 rw [h,h2] at h1
 exact (Option.some.inj h1).symm
theorem rread_cases (s:ByteArray) (hs:s.size ≤ 1099511627776) (a:Nat) (ha:a ≤ s.size) :
  (rdI ((nbytes s).drop a) = none ∧ f122 s (a:Int) = some (0,0,10,())) ∨
  ∃ (n:Int) (a':Nat),rdI ((nbytes s).drop a) = some (n,(nbytes s).drop a') ∧ f122 s (a:Int) = some (n,(a':Int),0,()) ∧ a < a' ∧ a' ≤ s.size ∧ smallI n:=by
 rw [f122_eq s hs a ha]
 unfold rdI
 cases h:dec ((nbytes s).drop a) with
 | none=>left; exact ⟨rfl,rfl⟩
 | some x =>
  obtain ⟨n,k⟩:=x
  right
  obtain ⟨h3,h4,t,h5⟩:=dec_some h
  have h6:0 < (grpN (zig n)).length:=by
   obtain ⟨b,bs,hb⟩:=grpN_cons (zig n)
   rw [hb]; simp
  refine ⟨n,a + k,?_,rfl,by omega,?_,h3,dec_le h⟩
  ·rw [Option.map_some,List.drop_drop]
  ·have:=congrArg List.length h5
   rw [List.length_drop,nbytes_len,List.length_append] at this
   omega
theorem all_read (s:ByteArray) (hs:s.size ≤ 1099511627776) (most:Nat):∀ (m k a:Nat) (acc:List Int),s.size - a ≤ m → m < k → a ≤ s.size → acc.length ≤ most → most ≤ 1000 →
  f68_l3 s (most:Int) k (a:Int) acc = some (match rdN (most - acc.length) ((nbytes s).drop a) with | some l=>.inl ((),(),(acc ++ l,())) | none=>.inr ((false,()),(),())):=by
 intro m
 induction m with
 | zero =>
  intro k a acc h1 h2 h3 h4 h5
  obtain ⟨k,rfl⟩:∃ q,k = q + 1:=⟨k - 1,by omega⟩
  have ha:a = s.size:=by omega
  have hd:(nbytes s).drop a = []:=by rw [List.drop_eq_nil_iff,nbytes_len]; omega
  rw [hd]
  have e:rdN (most - acc.length) [] = some []:=by cases (most - acc.length) <;> rfl
  rw [e]
  unfold f68_l3
  rw [dF (by omega)]
  simp only [List.append_nil,cond_false]
 | succ m ih =>
  intro k a acc h1 h2 h3 h4 h5
  obtain ⟨k,rfl⟩:∃ q,k = q + 1:=⟨k - 1,by omega⟩
  by_cases ha:a < s.size
  ·obtain ⟨b,bs,hb⟩:∃ b bs,(nbytes s).drop a = b :: bs:=by
    cases h:(nbytes s).drop a with
    | nil=>rw [List.drop_eq_nil_iff,nbytes_len] at h; omega
    | cons b bs=>exact ⟨b,bs,rfl⟩
   unfold f68_l3
   rw [dT (show (a:Int) < (s.size:Int) by omega),cond_true]
   rcases rread_cases s hs a h3 with ⟨r,g⟩ | ⟨n,a',r,g,l1,l2,q⟩
   ·refine bind_step g ?_
    rw [hb] at r ⊢
    have e:rdN (most - acc.length) (b :: bs) = none:=by
     cases (most - acc.length) with
     | zero=>rfl
     | succ j=>simp only [rdN]; rw [r]; rfl
    rw [e]
    rfl
   ·refine bind_step g ?_
    rw [hb] at r ⊢
    simp only [ne_eq,not_true_eq_false,decide_false,cond_false]
    by_cases hm:acc.length = most
    ·rw [dT (by omega),cond_true,show most - acc.length = 0 by omega]
     rfl
    ·rw [dF (by omega),cond_false,appOk _ _ (by simp; omega),cond_true,ih k a' (acc ++ [n]) (by omega) (by omega) l2 (by simp; omega) h5]
     obtain ⟨j,hj⟩:∃ j,most - acc.length = j + 1:=⟨most - acc.length - 1,by omega⟩
     rw [hj,show most - (acc ++ [n]).length = j by simp; omega]
     simp only [rdN]
     rw [r,Option.bind_some]
     simp only
     cases rdN j ((nbytes s).drop a') with
     | none=>rfl
     | some l =>
      rw [Option.bind_some]
      simp only [List.append_assoc,List.cons_append,List.nil_append]
  ·have ha:a = s.size:=by omega
   have hd:(nbytes s).drop a = []:=by rw [List.drop_eq_nil_iff,nbytes_len]; omega
   rw [hd]
   have e:rdN (most - acc.length) [] = some []:=by cases (most - acc.length) <;> rfl
   rw [e]
   unfold f68_l3
   rw [dF (by omega)]
   simp only [List.append_nil,cond_false]
theorem f68_eq (s:ByteArray) (hs:s.size ≤ 1099511627776) (most:Nat) (hm:most ≤ 1000):f68 s (most:Int) = some (match rdN most (nbytes s) with | some l=>(l,true,()) | none=>([],false,())):=by
 unfold f68
 have h:=all_read s hs most s.size (((s.size:Int) - (0:Int)).toNat + 1) 0 [] (by omega) (by omega) (Nat.zero_le _) (Nat.zero_le _) hm
 rw [List.drop_zero] at h
 refine bind_step h ?_
 show Sum.elim _ _ (match rdN most (nbytes s) with | some l=>.inl ((),(),([] ++ l,())) | none=>.inr ((false,()),(),())) = _
 cases rdN most (nbytes s) with
 | none=>rfl
 | some l=>rfl
theorem at_drop (l rest:List Int) (i c:Nat) (h:l.drop i = rest) (hc:c < rest.length):at_ tI l ((i + c:Nat):Int) = rest[c]:=by
 subst h
 rw [List.length_drop] at hc
 rw [List.getElem_drop]
 exact atN tI l (i + c) (by omega)
theorem redges_loop (l:List Int) (n1 n2:Int) (hl:l.length ≤ 1000):∀ (r k i:Nat) (acc:List Ed) (rest:List Int),l.drop i = rest → rest.length = 6 * r → i + 6 * r = l.length → acc.length ≤ i → r < k →
  (∃ es,rest = es.flatMap six ∧ (∀ e ∈ es,isAt n1 e = true) ∧ f26_l9 l 0 0 n1 n2 k (i:Int) acc = some (.inl ((),(),((0,0,()),(n1,n2,()),acc ++ es,())))) ∨
  ((¬ ∃ es:List Ed,rest = es.flatMap six ∧ (∀ e ∈ es,isAt n1 e = true)) ∧ f26_l9 l 0 0 n1 n2 k (i:Int) acc = some (.inr ((60,()),(),((0,0,()),()))))
 | 0,k,i,acc,rest,h1,h2,h3,h4,h5=>by
  obtain ⟨k,rfl⟩:∃ q,k = q + 1:=⟨k - 1,by omega⟩
  left
  have:rest = []:=List.eq_nil_of_length_eq_zero (by omega)
  subst this
  refine ⟨[],rfl,fun e he=>(by simp at he),?_⟩
  unfold f26_l9
  rw [dF (by omega),List.append_nil]
  rfl
 | r + 1,k,i,acc,rest,h1,h2,h3,h4,h5=>by
  obtain ⟨k,rfl⟩:∃ q,k = q + 1:=⟨k - 1,by omega⟩
  match rest,h1,h2 with
  | x0 :: x1 :: x2 :: x3 :: x4 :: x5 :: rest',h1,h2 =>
   have g (c:Nat) (hc:c < (x0 :: x1 :: x2 :: x3 :: x4 :: x5 :: rest').length):=at_drop l _ i c h1 hc
   have g0:at_ tI l (i:Int) = x0:=g 0 (by simp)
   have g1:at_ tI l ((i + 1:Nat):Int) = x1:=g 1 (by simp)
   have g2:at_ tI l ((i + 2:Nat):Int) = x2:=g 2 (by simp)
   have g3:at_ tI l ((i + 3:Nat):Int) = x3:=g 3 (by simp)
   have g4:at_ tI l ((i + 4:Nat):Int) = x4:=g 4 (by simp)
   have g5:at_ tI l ((i + 5:Nat):Int) = x5:=g 5 (by simp)
   have w (c:Nat) (hc:c ≤ 6):IntKind.wrap .i64 ((i:Int) + (c:Int)) = ((i + c:Nat):Int):=by rw [wrap_i64 _ (by omega) (by omega)]; omega
   have w1:IntKind.wrap .i64 ((i:Int) + (1:Int)) = ((i + 1:Nat):Int):=w 1 (by omega)
   have w2:IntKind.wrap .i64 ((i:Int) + (2:Int)) = ((i + 2:Nat):Int):=w 2 (by omega)
   have w3:IntKind.wrap .i64 ((i:Int) + (3:Int)) = ((i + 3:Nat):Int):=w 3 (by omega)
   have w4:IntKind.wrap .i64 ((i:Int) + (4:Int)) = ((i + 4:Nat):Int):=w 4 (by omega)
   have w5:IntKind.wrap .i64 ((i:Int) + (5:Int)) = ((i + 5:Nat):Int):=w 5 (by omega)
   have w6:IntKind.wrap .i64 ((i:Int) + (6:Int)) = ((i + 6:Nat):Int):=w 6 (by omega)
   have hd:l.drop (i + 6) = rest':=by rw [← List.drop_drop,h1]; rfl
   have hr:rest'.length = 6 * r:=by simp only [List.length_cons] at h2; omega
   have q:decide (acc.length + ([(x0,x1,x2,decide (x3 = 1),x4,x5,())]:List Ed).length ≤ appLim) = true:=appOk _ _ (by simp; omega)
   have hu:=f26_l9.eq_2 l 0 0 n1 n2 (i:Int) acc k
   simp only [dT (show (i:Int) < (l.length:Int) by omega),inRN,w1,w2,w3,w4,w5,w6,g0,g1,g2,g3,g4,g5,dT (show i < l.length by omega),dT (show i + 1 < l.length by omega),dT (show i + 2 < l.length by omega),dT (show i + 3 < l.length by omega),dT (show i + 4 < l.length by omega),dT (show i + 5 < l.length by omega),cond_true,q] at hu
   have bad:(¬ ((x1 = n1 ∨ x2 = n1) ∧ (x3 = 0 ∨ x3 = 1))) → ¬ ∃ es:List Ed,x0 :: x1 :: x2 :: x3 :: x4 :: x5 :: rest' = es.flatMap six ∧ (∀ e ∈ es,isAt n1 e = true):=by
    rintro hn ⟨es,he,ha⟩
    cases es with
    | nil=>cases he
    | cons e es =>
     obtain ⟨y0,y1,y2,b,y4,y5,u⟩:=e
     have he':x0 :: x1 :: x2 :: x3 :: x4 :: x5 :: rest' = y0 :: y1 :: y2 :: (if b = true then 1 else 0) :: y4 :: y5 :: es.flatMap six:=he
     simp only [List.cons.injEq] at he'
     obtain ⟨_,e1,e2,e3,_⟩:=he'
     have h7:=ha _ (List.mem_cons_self ..)
     unfold isAt at h7
     simp only [Bool.or_eq_true,decide_eq_true_eq] at h7
     refine hn ⟨by omega,?_⟩
     cases b
     ·left; simpa using e3
     ·right; simpa using e3
   by_cases hat:x1 = n1 ∨ x2 = n1
   ·by_cases h01:x3 = 0 ∨ x3 = 1
    ·have hs1:f26_l9 l 0 0 n1 n2 (k + 1) (i:Int) acc = f26_l9 l 0 0 n1 n2 k ((i + 6:Nat):Int) (acc ++ [(x0,x1,x2,decide (x3 = 1),x4,x5,())]):=by
      rw [hu]
      by_cases c1:x1 = n1
      ·rcases h01 with rfl | rfl
       ·simp [c1]
       ·simp [c1]
      ·have c2:x2 = n1:=hat.resolve_left c1
       rcases h01 with rfl | rfl
       ·simp [c1,c2]
       ·simp [c1,c2]
     have hsix:six (x0,x1,x2,decide (x3 = 1),x4,x5,()) = [x0,x1,x2,x3,x4,x5]:=by
      unfold six
      rcases h01 with rfl | rfl <;> rfl
     rcases redges_loop l n1 n2 hl r k (i + 6) (acc ++ [(x0,x1,x2,decide (x3 = 1),x4,x5,())]) rest' hd hr (by omega) (by simp; omega) (by omega) with ⟨es,a1,a2,a3⟩ | ⟨a1,a2⟩
     ·left
      refine ⟨(x0,x1,x2,decide (x3 = 1),x4,x5,()) :: es,?_,fun e he=>?_,hs1.trans (a3.trans ?_)⟩
      ·rw [List.flatMap_cons,hsix,← a1]; rfl
      ·rcases List.mem_cons.1 he with rfl | he
       ·unfold isAt
        simp only [Bool.or_eq_true,decide_eq_true_eq]
        exact hat
       ·exact a2 e he
      ·rw [List.append_assoc]; rfl
     ·right
      refine ⟨?_,hs1.trans a2⟩
      rintro ⟨es,he,ha⟩
      cases es with
      | nil=>cases he
      | cons e es =>
       refine a1 ⟨es,?_,fun x hx=>ha x (List.mem_cons_of_mem _ hx)⟩
       obtain ⟨y0,y1,y2,b,y4,y5,u⟩:=e
       have he':x0 :: x1 :: x2 :: x3 :: x4 :: x5 :: rest' = y0 :: y1 :: y2 :: (if b = true then 1 else 0) :: y4 :: y5 :: es.flatMap six:=he
       simp only [List.cons.injEq] at he'
       exact he'.2.2.2.2.2.2
    ·right
     refine ⟨bad (fun h=>h01 h.2),hu.trans ?_⟩
     have c3:¬ x3 = 0:=fun h=>h01 (.inl h)
     have c4:¬ x3 = 1:=fun h=>h01 (.inr h)
     by_cases c1:x1 = n1
     ·simp [c1,c3,c4]
     ·have c2:x2 = n1:=hat.resolve_left c1
      simp [c1,c2,c3,c4]
   ·right
    refine ⟨bad (fun h=>hat h.1),hu.trans ?_⟩
    have c1:¬ x1 = n1:=fun h=>hat (.inl h)
    have c2:¬ x2 = n1:=fun h=>hat (.inr h)
    simp [c1,c2]
  | [],_,h2 | [_],_,h2 | [_,_],_,h2 | [_,_,_],_,h2 | [_,_,_,_],_,h2 | [_,_,_,_,_],_,h2=>simp at h2 <;> omega
end Go.V.G
namespace Go.V.G
open Go.Proofs
def endAt (id:Int) (e:Ed):Bool:=decide (e.2.1 = id) || decide (e.2.2.1 = id)
theorem lone_ends (es:List Ed) (hl:es.length ≤ 1000) (t6 g0 g1:Int) (r54:List Vx) (r11:List Ed):∀ (m k j:Nat) (b:Bool),es.length - j ≤ m → m < k →
  f69_l7 es t6 g0 g1 r54 r11 k b (j:Int) = some ((es,t6,b || (es.drop j).any (endAt t6),()),(),((g0,g1,()),(),(),r54,r11,())):=by
 intro m
 induction m with
 | zero =>
  intro k j b h1 h2
  obtain ⟨k,rfl⟩:∃ q,k = q + 1:=⟨k - 1,by omega⟩
  unfold f69_l7
  rw [dF (by omega),List.drop_of_length_le (by omega)]
  simp <;> rfl
 | succ m ih =>
  intro k j b h1 h2
  obtain ⟨k,rfl⟩:∃ q,k = q + 1:=⟨k - 1,by omega⟩
  by_cases hj:j < es.length
  ·have hget:at_ tE es (j:Int) = es[j]:=atN tE es j hj
   unfold f69_l7
   rw [dT (by omega),List.drop_eq_getElem_cons hj,List.any_cons]
   simp only [inRN,dT hj,hget,wS j (by omega),cond_true]
   cases b with
   | true =>
    rw [cond_true,ih k (j + 1) true (by omega) (by omega)]
    simp <;> rfl
   | false =>
    rw [cond_false]
    unfold endAt
    by_cases c1:es[j].2.1 = t6
    ·rw [dT c1,cond_true,ih k (j + 1) true (by omega) (by omega)]
     simp <;> rfl
    ·rw [dF c1,cond_false,ih k (j + 1) _ (by omega) (by omega)]
     simp only [Bool.false_or]
     rfl
  ·unfold f69_l7
   rw [dF (by omega),List.drop_of_length_le (by omega)]
   simp <;> rfl
def loneAt (v:Vx) (es:List Ed) (id:Nat):List Vx:=if (id:Int) = v.1 then [v] else if es.any (endAt (id:Int)) = true then [farV (id:Int)] else []
theorem lone_rows (v:Vx) (es:List Ed) (hl:es.length ≤ 1000):∀ (m k j:Nat) (acc:List Vx),24 - j ≤ m → m < k → j ≤ 24 → acc.length ≤ j →
  f69_l3 k es (j:Int) v.1 v.2.1 acc es = some ((),(),((),(),acc ++ (List.range' j (24 - j)).flatMap (loneAt v es),es,())):=by
 intro m
 induction m with
 | zero =>
  intro k j acc h1 h2 h3 h4
  obtain ⟨k,rfl⟩:∃ q,k = q + 1:=⟨k - 1,by omega⟩
  unfold f69_l3
  rw [dF (by omega),show 24 - j = 0 by omega]
  simp <;> rfl
 | succ m ih =>
  intro k j acc h1 h2 h3 h4
  obtain ⟨k,rfl⟩:∃ q,k = q + 1:=⟨k - 1,by omega⟩
  by_cases hj:j < 24
  ·have h5:=lone_ends es hl (j:Int) v.1 v.2.1 acc es es.length (((es.length:Int) - (0:Int)).toNat + 1) 0 (decide ((j:Int) = v.1)) (by omega) (by omega)
   rw [List.drop_zero] at h5
   have hr:List.range' j (24 - j) = j :: List.range' (j + 1) (24 - (j + 1)):=by
    rw [show 24 - j = (24 - (j + 1)) + 1 by omega,List.range'_succ]
   unfold f69_l3
   rw [dT (by omega),cond_true,hr,List.flatMap_cons,← List.append_assoc]
   refine bind_step h5 ?_
   obtain ⟨v0,v1,u⟩:=v
   simp only at ih ⊢
   unfold loneAt
   simp only [wS j (by omega)]
   by_cases c1:(j:Int) = v0
   ·rw [dT c1,cond_true,if_pos c1,appOk _ _ (by simp; omega),cond_true]
    exact ih k (j + 1) _ (by omega) (by omega) (by omega) (by simp; omega)
   ·rw [dF c1,cond_false,if_neg c1,Bool.false_or]
    cases ha:es.any (endAt (j:Int)) with
    | true =>
     rw [cond_true,appOk _ _ (by simp; omega),cond_true,if_pos rfl]
     exact ih k (j + 1) _ (by omega) (by omega) (by omega) (by simp; omega)
    | false =>
     rw [cond_false,if_neg (by simp),List.append_nil]
     exact ih k (j + 1) _ (by omega) (by omega) (by omega) (by omega)
  ·unfold f69_l3
   rw [dF (by omega),show 24 - j = 0 by omega]
   simp <;> rfl
def loneV (v:Vx) (es:List Ed):List Vx:=(List.range' 0 24).flatMap (loneAt v es)
theorem f69_eq (v:Vx) (es:List Ed) (hl:es.length ≤ 1000):f69 v es = some ((loneV v es,es,[],()),()):=by
 unfold f69
 rw [dT (by unfold appLim; omega),cond_true]
 refine bind_step (lone_rows v es hl 24 (((24:Int) - (0:Int)).toNat + 1) 0 [] (by omega) (by decide) (by omega) (by simp)) ?_
 rfl
theorem loneAt_mem {v:Vx} {es:List Ed} {id:Nat} {x:Vx} (h:x ∈ loneAt v es id):x.1 = (id:Int) ∧ (x = v ∨ x.2.1 = 0 ∧ ∃ e ∈ es,e.2.1 = x.1 ∨ e.2.2.1 = x.1):=by
 unfold loneAt at h
 split at h
 ·rename_i c
  rw [List.mem_singleton] at h
  subst h
  exact ⟨c.symm,.inl rfl⟩
 ·split at h
  ·rename_i c
   rw [List.mem_singleton] at h
   subst h
   obtain ⟨e,he,h1⟩:=List.any_eq_true.1 c
   unfold endAt at h1
   simp only [Bool.or_eq_true,decide_eq_true_eq] at h1
   exact ⟨rfl,.inr ⟨rfl,e,he,h1⟩⟩
  ·simp at h
theorem pairwise_flatMap_range {α:Type} (f:Nat → List α) (k:α → Int) (h:∀ i x,x ∈ f i → k x = (i:Int)) (h1:∀ i,(f i).length ≤ 1):∀ (n s:Nat),((List.range' s n).flatMap f).Pairwise (fun a b=>k a < k b) ∧ ∀ x ∈ (List.range' s n).flatMap f,(s:Int) ≤ k x
 | 0,s=>by simp
 | n + 1,s=>by
  rw [List.range'_succ,List.flatMap_cons]
  obtain ⟨i1,i2⟩:=pairwise_flatMap_range f k h h1 n (s + 1)
  constructor
  ·refine List.pairwise_append.2 ⟨?_,i1,fun a ha b hb=>?_⟩
   ·have:=h1 s
    match hf:f s with
    | []=>exact List.Pairwise.nil
    | [a]=>exact List.pairwise_singleton _ _
    | a :: b :: l=>rw [hf] at this; simp at this
   ·have:=h s a ha
    have:=i2 b hb
    omega
  ·intro x hx
   rcases List.mem_append.1 hx with hx | hx
   ·rw [h s x hx]; omega
   ·have:=i2 x hx
    omega
theorem loneAt_len (v:Vx) (es:List Ed) (i:Nat):(loneAt v es i).length ≤ 1:=by
 unfold loneAt
 split
 ·simp
 ·split <;> simp
theorem loneV_asc (v:Vx) (es:List Ed):asc kV (loneV v es) = true:=by
 rw [asc_pairwise]
 exact (pairwise_flatMap_range (loneAt v es) kV (fun i x hx=>(loneAt_mem hx).1) (loneAt_len v es) 24 0).1
theorem loneV_mem (v:Vx) (es:List Ed) (x:Vx) (h:x ∈ loneV v es):x = v ∨ x.2.1 = 0 ∧ ∃ e ∈ es,e.2.1 = x.1 ∨ e.2.2.1 = x.1:=by
 obtain ⟨id,_,h1⟩:=List.mem_flatMap.1 h
 exact (loneAt_mem h1).2
theorem loneV_has (v:Vx) (es:List Ed) (d:Int) (h0:0 ≤ d) (h1:d < 24) (h:d = v.1 ∨ ∃ e ∈ es,e.2.1 = d ∨ e.2.2.1 = d):hasV (loneV v es) d = true:=by
 obtain ⟨id,rfl⟩:∃ id:Nat,d = (id:Int):=⟨d.toNat,by omega⟩
 have hm:id ∈ List.range' 0 24:=by rw [List.mem_range'_1]; omega
 by_cases c:(id:Int) = v.1
 ·exact List.any_eq_true.2 ⟨v,List.mem_flatMap.2 ⟨id,hm,by unfold loneAt; rw [if_pos c]; simp⟩,by simp [c]⟩
 ·obtain ⟨e,he,h2⟩:=h.resolve_left c
  have ha:es.any (endAt (id:Int)) = true:=List.any_eq_true.2 ⟨e,he,by unfold endAt; simpa using h2⟩
  exact List.any_eq_true.2 ⟨farV (id:Int),List.mem_flatMap.2 ⟨id,hm,by unfold loneAt; rw [if_neg c,if_pos ha]; simp⟩,by simp [farV]⟩
theorem loneV_valid (v:Vx) (es:List Ed) (h0:0 ≤ v.1) (h1:v.1 < 24) (ha:∀ e ∈ es,isAt v.1 e = true):valid (loneV v es,es,[],()) = good v es:=by
 have hv:hasV (loneV v es) v.1 = true:=loneV_has v es v.1 h0 h1 (.inl rfl)
 refine star_valid _ v es ha (loneV_asc v es) (loneV_mem v es) ?_ (fun e he ho=>?_)
 ·refine List.mem_flatMap.2 ⟨v.1.toNat,by rw [List.mem_range'_1]; omega,?_⟩
  unfold loneAt
  rw [if_pos (by omega)]
  simp
 ·unfold okE at ho
  simp only [Bool.and_eq_true,decide_eq_true_eq] at ho
  exact ⟨loneV_has v es _ (by omega) (by omega) (.inr ⟨e,he,.inl rfl⟩),loneV_has v es _ (by omega) (by omega) (.inr ⟨e,he,.inr rfl⟩)⟩
theorem loneV_len (v:Vx) (es:List Ed):(loneV v es).length ≤ 24:=by
 unfold loneV
 rw [List.length_flatMap]
 have h1:∀ i,(loneAt v es i).length ≤ 1:=loneAt_len v es
 have:∀ (l:List Nat),(l.map fun a=>(loneAt v es a).length).sum ≤ l.length:=by
  intro l
  induction l with
  | nil=>simp
  | cons a l ih =>
   rw [List.map_cons,List.sum_cons,List.length_cons]
   have:=h1 a
   omega
 have h2:=this (List.range' 0 24)
 rw [List.length_range'] at h2
 exact h2
theorem pageN_smallG {v:Vx} {es:List Ed} (h:good v es = true):(∀ x ∈ pageN v es,smallI x) ∧ (pageN v es).length ≤ 243:=by
 obtain ⟨h1,h2,h3,h4⟩:=good_small h
 constructor
 ·intro n hn
  unfold pageN at hn
  simp only [List.mem_cons] at hn
  rcases hn with rfl | rfl | rfl | hn
  ·exact h3
  ·exact h4
  ·unfold smallI maxI; omega
  ·obtain ⟨e,h5,h6⟩:=List.mem_flatMap.1 hn
   exact h2 e h5 n h6
 ·have:=six_len es
  unfold pageN
  simp only [List.length_cons]
  omega
theorem parse_none {s:ByteArray} (h:∀ v es,good v es = true → s ≠ encs (pageN v es)):parse (nbytes s) = none:=by
 cases hp:parse (nbytes s) with
 | none=>rfl
 | some x =>
  obtain ⟨v,es⟩:=x
  have:=(parse_iff s v es).1 hp
  exact absurd this.eq (h v es this.good)
theorem f26_eq (s:ByteArray) (hs:s.size ≤ 1099511627776):f26 s = some (parsed (parse (nbytes s))):=by
 have h68:=f68_eq s hs 243 (by omega)
 unfold f26
 cases hr:rdN 243 (nbytes s) with
 | none =>
  rw [hr] at h68
  refine bind_step h68 ?_
  rw [parse_none (fun v es hg he=>?_)]
  ·rfl
  ·obtain ⟨h1,h2⟩:=pageN_smallG hg
   rw [he,rdN_enc h1 h2] at hr
   cases hr
 | some l =>
  rw [hr] at h68
  refine bind_step h68 ?_
  obtain ⟨a1,a2,a3⟩:=rdN_some hr
  have hsl:s = encs l:=nbytes_inj a3
  have no (h:∀ v es,good v es = true → l ≠ pageN v es):parse (nbytes s) = none:=parse_none (fun v es hg he=>h v es hg (encs_inj a2 (pageN_smallG hg).1 (hsl.symm.trans he)))
  show (bif decide ((l.length:Int) < (3:Int)) then _ else _) = _
  match l,a1,a2,a3,hsl,no with
  | [],_,_,_,_,no=>rw [no (fun v es _ h=>by cases h)]; rfl
  | [_],_,_,_,_,no=>rw [no (fun v es _ h=>by cases h)]; rfl
  | [_,_],_,_,_,_,no=>rw [no (fun v es _ h=>by cases h)]; rfl
  | n1 :: n2 :: n3 :: rest,a1,a2,a3,hsl,no =>
   have g0:at_ tI (n1 :: n2 :: n3 :: rest) (0:Int) = n1:=rfl
   have g1:at_ tI (n1 :: n2 :: n3 :: rest) (1:Int) = n2:=rfl
   have g2:at_ tI (n1 :: n2 :: n3 :: rest) (2:Int) = n3:=rfl
   have hlen:(n1 :: n2 :: n3 :: rest).length = rest.length + 3:=rfl
   have i0:inR (0:Int) (rest.length + 3) = true:=by unfold inR; simp; omega
   have i1:inR (1:Int) (rest.length + 3) = true:=by unfold inR; simp; omega
   have i2:inR (2:Int) (rest.length + 3) = true:=by unfold inR; simp; omega
   rw [hlen] at a1
   have noN (h:∀ v es,good v es = true → n1 = v.1 → n2 = v.2.1 → n3 = (es.length:Int) → rest = es.flatMap six → False):parse (nbytes s) = none:=no (fun v es hg he=>by
    unfold pageN at he
    simp only [List.cons.injEq] at he
    exact h v es hg he.1 he.2.1 he.2.2.1 he.2.2.2)
   simp only [g0,g1,g2,i0,i1,i2,cond_true,hlen]
   rw [dF (by omega),cond_false]
   by_cases c1:n3 < 0
   ·rw [dT c1,cond_true,noN (fun v es hg _ _ h3 _=>by omega)]
    rfl
   ·rw [dF c1,cond_false]
    by_cases c2:n3 > 40
    ·rw [dT c2,cond_true,noN (fun v es hg _ _ h3 _=>by have:=(good_small hg).1; omega)]
     rfl
    ·rw [dF c2,cond_false]
     have w1:IntKind.wrap .i64 ((6:Int) * n3) = 6 * n3:=wrap_i64 _ (by omega) (by omega)
     have w2:IntKind.wrap .i64 ((3:Int) + 6 * n3) = 3 + 6 * n3:=wrap_i64 _ (by omega) (by omega)
     rw [w1,w2]
     by_cases c3:((rest.length + 3:Nat):Int) ≠ 3 + 6 * n3
     ·rw [dT c3,cond_true,noN (fun v es hg _ _ h3 h4=>by
       have:=six_len es
       have:=congrArg List.length h4
       omega)]
      rfl
     ·rw [dF c3,cond_false]
      have hr6:rest.length = 6 * n3.toNat:=by omega
      rcases redges_loop (n1 :: n2 :: n3 :: rest) n1 n2 (by rw [hlen]; omega) n3.toNat ((((rest.length + 3:Nat):Int) - (3:Int)).toNat + 1) 3 [] rest rfl hr6 (by rw [hlen]; omega) (by simp) (by omega) with ⟨es,b1,b2,b3⟩ | ⟨b1,b2⟩
      ·refine bind_step b3 ?_
       have hel:es.length = n3.toNat:=by
        have:=six_len es
        have:=congrArg List.length b1
        omega
       rw [List.nil_append]
       refine bind_step (f69_eq (n1,n2,()) es (by omega)) ?_
       have hv:=f48_eq (loneV (n1,n2,()) es,es,[],()) (show (loneV (n1,n2,()) es).length ≤ _ by have:=loneV_len (n1,n2,()) es; omega) (show es.length ≤ _ by omega) (by simp)
       refine bind_step hv ?_
       by_cases c4:n1 < 0
       ·have hn:parse (nbytes s) = none:=noN (fun v es' hg h1 _ _ _=>by
         unfold good okV at hg
         simp only [Bool.and_eq_true,decide_eq_true_eq] at hg
         omega)
        rw [hn]
        simp only [dT c4,cond_true]
        cases valid (loneV (n1,n2,()) es,es,[],()) <;> rfl
       ·by_cases c5:n1 ≥ 24
        ·have hn:parse (nbytes s) = none:=noN (fun v es' hg h1 _ _ _=>by
          unfold good okV at hg
          simp only [Bool.and_eq_true,decide_eq_true_eq] at hg
          omega)
         rw [hn]
         simp only [dF c4,dT c5,cond_true,cond_false]
         cases valid (loneV (n1,n2,()) es,es,[],()) <;> rfl
        ·simp only [dF c4,dF c5,cond_false]
         rw [loneV_valid (n1,n2,()) es (by omega) (by omega) b2]
         have hpg:s = encs (pageN (n1,n2,()) es):=by
          rw [hsl,b1]
          unfold pageN
          rw [hel,Int.toNat_of_nonneg (by omega)]
         cases hg:good (n1,n2,()) es with
         | true =>
          rw [(parse_iff s _ _).2 ⟨hpg,hg⟩]
          rfl
         | false =>
          have hn:parse (nbytes s) = none:=by
           cases hp:parse (nbytes s) with
           | none=>rfl
           | some x =>
            obtain ⟨v,es'⟩:=x
            have h:=(parse_iff s v es').1 hp
            have hb:=encs_inj (pageN_smallG h.good).1 a2 (h.eq.symm.trans hsl)
            unfold pageN at hb
            simp only [List.cons.injEq] at hb
            have hb4:=rdEs_enc es' (good_small h.good).2.1 []
            have hb5:es' = es:=by
             have q:∀ (a b:List Ed),a.flatMap six = b.flatMap six → a = b:=by
              intro a
              induction a with
              | nil=>intro b h; cases b with
               | nil=>rfl
               | cons y b=>cases h
              | cons x a ih =>
               intro b h
               cases b with
               | nil=>cases h
               | cons y b =>
                obtain ⟨x0,x1,x2,xb,x4,x5,u⟩:=x
                obtain ⟨y0,y1,y2,yb,y4,y5,u'⟩:=y
                have h':x0 :: x1 :: x2 :: (if xb = true then (1:Int) else 0) :: x4 :: x5 :: a.flatMap six = y0 :: y1 :: y2 :: (if yb = true then (1:Int) else 0) :: y4 :: y5 :: b.flatMap six:=h
                simp only [List.cons.injEq] at h'
                obtain ⟨rfl,rfl,rfl,h3,rfl,rfl,h6⟩:=h'
                have:xb = yb:=by cases xb <;> cases yb <;> simp at h3 <;> rfl
                subst this
                rw [ih b h6]
             exact q es' es (hb.2.2.2.trans b1)
            obtain ⟨v0,v1,u⟩:=v
            have hv0:v0 = n1:=hb.1
            have hv1:v1 = n2:=hb.2.1
            subst hb5 hv0 hv1
            rw [h.good] at hg
            cases hg
          rw [hn]
          rfl
      ·refine bind_step b2 ?_
       rw [noN (fun v es hg h1 _ _ h4=>b1 ⟨es,h4,fun e he=>by
        unfold good at hg
        simp only [Bool.and_eq_true,List.all_eq_true] at hg
        rw [h1]
        exact (hg.2 e he).2⟩)]
       rfl
end Go.V.G
namespace Go.V.G
open Go.Proofs
theorem rdues_loop (t5:List Int) (t7:Int) (ds:List Int) (hl:ds.length ≤ 1000):f28_l9 t5 t7 ds (((ds.length:Int) - (1:Int)).toNat + 1) 1 = some (if asc kI ds = true then .inl ((t5,t7,()),(),(ds,())) else .inr ((0,60,()),(),())):=by
 have h:=asc_loop tI (kI:Int → Int) (fun k j=>f28_l9 t5 t7 ds k j) (.inl ((t5,t7,()),(),(ds,()))) (.inr ((0,60,()),(),())) ds (by omega) (by
  intro k j hj
  show f28_l9 t5 t7 ds (k + 1) (j:Int) = _
  conv=>lhs; unfold f28_l9
  by_cases h:j < ds.length
  ·have g1:at_ tI ds (j:Int) = ds[j]:=atN tI ds j h
   have g2:at_ tI ds ((j - 1:Nat):Int) = ds[j - 1]'(by omega):=atN tI ds (j - 1) (by omega)
   rw [dT (by omega),dif_pos h]
   simp only [cond_true,inRN,dT h,pred_wrap j hj (by omega),dT (show j - 1 < ds.length by omega),g1,g2,wS j (by omega)]
   by_cases c:ds[j] ≤ ds[j - 1]'(by omega)
   ·rw [dT c,if_pos (show kI (ds[j - 1]'(by omega)) ≥ kI ds[j] from c)]; rfl
   ·rw [dF c,if_neg (show ¬ kI (ds[j - 1]'(by omega)) ≥ kI ds[j] from c)]; rfl
  ·rw [dF (by omega),dif_neg h]; rfl) (ds.length - 1) (((ds.length:Int) - (1:Int)).toNat + 1) 1 (by omega) (by omega) (by omega)
 rw [show 1 - 1 = 0 from rfl,List.drop_zero] at h
 exact h
theorem headL_small {ds:List Int} {n:Int} (h1:ds.length ≤ 3) (h2:∀ d ∈ ds,0 ≤ d ∧ d ≤ 23) (h3:0 ≤ n) (h4:n < 1099511627776):∀ x ∈ (ds.length:Int) :: (ds ++ [n]),smallI x:=by
 intro x hx
 unfold smallI maxI
 rcases List.mem_cons.1 hx with rfl | hx
 ·omega
 ·rcases List.mem_append.1 hx with hx | hx
  ·have:=h2 x hx
   omega
  ·rw [List.mem_singleton] at hx
   omega
theorem parseH_none {s:ByteArray} (h:∀ ds n,IsHead s ds n → False):parseH (nbytes s) = none:=by
 cases hp:parseH (nbytes s) with
 | none=>rfl
 | some x=>exact absurd ((parseH_iff s x.1 x.2).1 hp) (h x.1 x.2)
theorem two_ends (l:List Int) (h:2 ≤ l.length):∃ c ds n,l = c :: (ds ++ [n]):=by
 match l,h with
 | c :: x :: l,_ =>
  exact ⟨c,(x :: l).dropLast,(x :: l).getLast (by simp),by rw [List.dropLast_concat_getLast]⟩
theorem f28_eq (s:ByteArray) (hs:s.size ≤ 1099511627776):f28 s = some (parsedH (parseH (nbytes s))):=by
 have h68:=f68_eq s hs 5 (by omega)
 unfold f28
 cases hr:rdN 5 (nbytes s) with
 | none =>
  rw [hr] at h68
  refine bind_step h68 ?_
  rw [parseH_none (fun ds n h=>?_)]
  ·rfl
  ·have h1:=headL_small h.len h.rng h.lo h.hi
   rw [h.eq,rdN_enc h1 (by have:=h.len; simp; omega)] at hr
   cases hr
 | some l =>
  rw [hr] at h68
  refine bind_step h68 ?_
  obtain ⟨a1,a2,a3⟩:=rdN_some hr
  have hsl:s = encs l:=nbytes_inj a3
  have no (h:∀ ds n,IsHead s ds n → l ≠ (ds.length:Int) :: (ds ++ [n])):parseH (nbytes s) = none:=parseH_none (fun ds n hh=>h ds n hh (encs_inj a2 (headL_small hh.len hh.rng hh.lo hh.hi) (hsl.symm.trans hh.eq)))
  show (bif decide ((l.length:Int) < (2:Int)) then _ else _) = _
  by_cases h2:l.length < 2
  ·rw [dT (by omega),cond_true,no (fun ds n hh e=>by rw [e] at h2; simp at h2; omega)]
   rfl
  ·rw [dF (by omega),cond_false]
   obtain ⟨c,ds,n,rfl⟩:=two_ends l (by omega)
   have noN (h:∀ (hh:IsHead s ds n),c = (ds.length:Int) → False):parseH (nbytes s) = none:=no (fun ds' n' hh e=>by
    simp only [List.cons.injEq] at e
    obtain ⟨e1,e2⟩:=e
    have e3:=List.append_inj' e2 rfl
    obtain ⟨rfl,e4⟩:=e3
    simp only [List.cons.injEq,and_true] at e4
    subst e4
    exact h hh e1)
   have hlen:(c :: (ds ++ [n])).length = ds.length + 2:=by simp
   rw [hlen] at a1
   have g0:at_ tI (c :: (ds ++ [n])) (0:Int) = c:=rfl
   have w2:IntKind.wrap .i64 (((ds.length + 2:Nat):Int) - (2:Int)) = (ds.length:Int):=by rw [wrap_i64 _ (by omega) (by omega)]; omega
   have w1:IntKind.wrap .i64 (((ds.length + 2:Nat):Int) - (1:Int)) = ((ds.length + 1:Nat):Int):=by rw [wrap_i64 _ (by omega) (by omega)]; omega
   have g1:at_ tI (c :: (ds ++ [n])) ((ds.length + 1:Nat):Int) = n:=by
    rw [atN tI (c :: (ds ++ [n])) (ds.length + 1) (by simp)]
    simp
   have i0:inR (0:Int) (ds.length + 2) = true:=by unfold inR; simp; omega
   have i1:inR ((ds.length + 1:Nat):Int) (ds.length + 2) = true:=by rw [inRN]; simp
   simp only [hlen,g0,w2,w1,g1,i0,i1,cond_true]
   by_cases c1:c ≠ (ds.length:Int)
   ·rw [dT c1,cond_true,noN (fun _ e=>c1 e)]; rfl
   ·rw [dF c1,cond_false]
    have c1:c = (ds.length:Int):=by simpa using c1
    by_cases c2:n < 0
    ·rw [dT c2,cond_true,noN (fun hh _=>by have:=hh.lo; omega)]; rfl
    ·rw [dF c2,cond_false]
     by_cases c3:n ≥ 1099511627776
     ·rw [dT c3,cond_true,noN (fun hh _=>by have:=hh.hi; omega)]; rfl
     ·rw [dF c3,cond_false]
      have hcut:cutOk (ds.length + 2) (some (1:Int)) (some ((ds.length + 1:Nat):Int)) = true:=by
       unfold cutOk
       simp
       omega
      have htk:((c :: (ds ++ [n])).take (Int.toNat ((ds.length + 1:Nat):Int))).drop (Int.toNat (1:Int)) = ds:=by
       rw [Int.toNat_natCast]
       show (c :: (ds ++ [n]).take ds.length).drop 1 = ds
       simp
      have hap:decide (ds.length ≤ appLim) = true:=by unfold appLim; simp; omega
      have rest:(∀ d ∈ ds,0 ≤ d ∧ d ≤ 23) ∨ asc kI ds = false → (f28_l9 (c :: (ds ++ [n])) ((ds.length + 2:Nat):Int) ds (((ds.length:Int) - (1:Int)).toNat + 1) 1).bind (fun o30 =>
        Sum.elim (fun o31=>bif (inR (IntKind.wrap .i64 (o31.1.2.1 - (1:Int))) o31.1.1.length) then some (o31.2.2.1,(at_ tI o31.1.1 (IntKind.wrap .i64 (o31.1.2.1 - (1:Int)))),(0:Int),()) else none) (fun o32=>some ([],o32.1.1,o32.1.2.1,())) o30) = some (parsedH (parseH (nbytes s))):=by
       intro hrng
       have hlp:=rdues_loop (c :: (ds ++ [n])) ((ds.length + 2:Nat):Int) ds (by omega)
       by_cases ha:asc kI ds = true
       ·refine bind_step (hlp.trans (congrArg some (if_pos ha))) ?_
        have hrng:=hrng.resolve_right (by rw [ha]; simp)
        rw [(parseH_iff s ds n).2 ⟨by rw [hsl,c1],by omega,ha,hrng,by omega,by omega⟩]
        show (bif (inR (IntKind.wrap .i64 (((ds.length + 2:Nat):Int) - (1:Int))) (c :: (ds ++ [n])).length) then some (ds,(at_ tI (c :: (ds ++ [n])) (IntKind.wrap .i64 (((ds.length + 2:Nat):Int) - (1:Int)))),(0:Int),()) else none) = _
        rw [w1,hlen,i1,g1]
        rfl
       ·rw [noN (fun hh _=>ha hh.asc)]
        exact bind_step (hlp.trans (congrArg some (if_neg ha))) rfl
      by_cases c4:ds.length = 0
      ·have hd:ds = []:=List.eq_nil_of_length_eq_zero c4
       subst hd
       exact rest (.inl (fun d hd=>by simp at hd))
      ·rw [dT (show ((ds.length + 2:Nat):Int) > 2 by omega),cond_true]
       have i2:inR (1:Int) (ds.length + 2) = true:=by unfold inR; simp; omega
       have i3:inR (ds.length:Int) (ds.length + 2) = true:=by rw [inRN]; simp
       have g2:at_ tI (c :: (ds ++ [n])) (1:Int) = ds[0]'(by omega):=by
        have:=atN tI (c :: (ds ++ [n])) 1 (by simp)
        refine this.trans ?_
        simp [List.getElem_append_left,show 0 < ds.length by omega]
       have g3:at_ tI (c :: (ds ++ [n])) (ds.length:Int) = ds[ds.length - 1]'(by omega):=by
        have:=atN tI (c :: (ds ++ [n])) ds.length (by simp; omega)
        refine this.trans ?_
        obtain ⟨q,hq⟩:∃ q,ds.length = q + 1:=⟨ds.length - 1,by omega⟩
        simp only [hq,List.getElem_cons_succ,Nat.add_sub_cancel]
        rw [List.getElem_append_left (by omega)]
       simp only [i2,i3,g2,g3,cond_true]
       by_cases c5:ds[0]'(by omega) < 0
       ·rw [dT c5,cond_true,noN (fun hh _=>by have:=hh.rng _ (List.getElem_mem (show 0 < ds.length by omega)); omega)]; rfl
       ·rw [dF c5,cond_false]
        by_cases c6:ds[ds.length - 1]'(by omega) ≥ 24
        ·rw [dT c6,cond_true,noN (fun hh _=>by have:=hh.rng _ (List.getElem_mem (show ds.length - 1 < ds.length by omega)); omega)]; rfl
        ·rw [dF c6,cond_false]
         simp only [hcut,cond_true,htk,hap]
         refine rest ?_
         by_cases ha:asc kI ds = true
         ·left
          intro d hd
          obtain ⟨i,hi,rfl⟩:=List.getElem_of_mem hd
          have hp:=List.pairwise_iff_getElem.1 ((asc_pairwise kI).1 ha)
          constructor
          ·by_cases hi0:i = 0
           ·subst hi0; omega
           ·have:kI (ds[0]'(by omega)) < kI ds[i]:=hp 0 i (by omega) hi (by omega)
            have:ds[0]'(by omega) < ds[i]:=this
            omega
          ·by_cases hi1:i = ds.length - 1
           ·subst hi1; omega
           ·have:kI ds[i] < kI (ds[ds.length - 1]'(by omega)):=hp i (ds.length - 1) hi (by omega) (by omega)
            have:ds[i] < ds[ds.length - 1]'(by omega):=this
            omega
         ·right
          simpa using ha
end Go.V.G
namespace Go.V.G
open Go.Proofs
abbrev MpE:=List (Int × Ed)
def mget (m:MpE) (k:Int):Option Ed:=bif mapHas tI tE m k then some (mapGet tI tE m k) else none
def mput (m:MpE) (e:Ed):MpE:=mapSet tI tE m e.1 e
theorem keyEq_int (a b:Int):keyEq tI a b = decide (a = b):=rfl
theorem mget_put:∀ (m:MpE) (e:Ed) (k:Int),mget (mput m e) k = if k = e.1 then some e else mget m k
 | [],e,k=>by
  unfold mget mput
  simp only [mapSet,mapHas,mapGet,keyEq_int]
  by_cases h:k = e.1
  ·rw [dT h,if_pos h]; rfl
  ·rw [dF h,if_neg h]; rfl
 | (j,u) :: m,e,k=>by
  have ih:=mget_put m e k
  unfold mget mput at ih ⊢
  simp only [mapSet,keyEq_int]
  by_cases h:e.1 = j
  ·rw [dT h,cond_true]
   simp only [mapHas,mapGet,keyEq_int]
   by_cases h1:k = e.1
   ·rw [dT h1,if_pos h1]; rfl
   ·rw [dF h1,if_neg h1,dF (by rw [← h]; exact h1)]; rfl
  ·rw [dF h,cond_false]
   simp only [mapHas,mapGet,keyEq_int]
   by_cases h2:k = j
   ·rw [dT h2,if_neg (by rw [h2]; exact fun h3=>h h3.symm)]; rfl
   ·rw [dF h2,cond_false,cond_false]
    exact ih
theorem put_loop (t0 t35:List En) (t36 t37:Int) (es:List Ed) (r56:List Vx) (hl:es.length ≤ 1000) (k:Nat) (hk:es.length < k) (m:MpE) :
  f22_l13 t0 t35 t36 t37 es (es.length:Int) r56 k 0 m = some ((t0,t35,t36,t37,()),(),((),(),es.foldl mput m,r56,())):=by
 have hl:=fold_loop tE mput (fun k j acc=>f22_l13 t0 t35 t36 t37 es (es.length:Int) r56 k j acc) (fun r=>((t0,t35,t36,t37,()),(),((),(),r,r56,()))) (fun j acc=>True) es (by
  intro k j acc hI
  show f22_l13 t0 t35 t36 t37 es (es.length:Int) r56 (k + 1) (j:Int) acc = _
  conv=>lhs; unfold f22_l13
  by_cases hj:j < es.length
  ·have e1:decide ((j:Int) < (es.length:Int)) = true:=by simp; omega
   have hget:at_ tE es (j:Int) = es[j]:=atN tE es j hj
   rw [dif_pos hj]
   simp only [e1,cond_true,inRN,dT hj,wS j (by omega),hget]
   rfl
  ·have e1:decide ((j:Int) < (es.length:Int)) = false:=by simp; omega
   rw [dif_neg hj]
   simp only [e1,cond_false]) (fun _ _ _ _=>trivial)
 have h2:=hl es.length k 0 m (by omega) hk trivial
 rw [List.drop_zero] at h2
 exact h2
def joinG:List En → MpE → List Vx → Option (MpE × List Vx)
 | [],m,vs=>some (m,vs)
 | x :: l,m,vs=>(parse (nbytes x.2.1)).bind fun y=>joinG l (y.2.foldl mput m) (vs ++ [y.1])
def szOk (l:List En):Prop:=∀ x ∈ l,x.2.1.size ≤ 1099511627776
theorem parse_len {bs:ByteArray} {v es} (h:parse (nbytes bs) = some (v,es)):es.length ≤ 40:=(good_small ((parse_iff bs v es).1 h).good).1
theorem join_rows (t0 l:List En) (hs:szOk l):∀ (n k j:Nat) (m:MpE) (vs:List Vx),l.length - j ≤ n → n < k → vs.length ≤ j → j ≤ l.length → l.length ≤ 1000 →
  (joinG (l.drop j) m vs = none ∧ f22_l6 k t0 l (l.length:Int) (j:Int) m vs = some (.inr ((60,()),(),((),())))) ∨
  ∃ m' vs',joinG (l.drop j) m vs = some (m',vs') ∧ vs'.length ≤ l.length ∧ f22_l6 k t0 l (l.length:Int) (j:Int) m vs = some (.inl ((t0,()),(),((),(),m',vs',()))):=by
 intro n
 induction n with
 | zero =>
  intro k j m vs h1 h2 h3 h4 h5
  obtain ⟨k,rfl⟩:∃ q,k = q + 1:=⟨k - 1,by omega⟩
  right
  rw [List.drop_of_length_le (by omega)]
  refine ⟨m,vs,rfl,by omega,?_⟩
  unfold f22_l6
  rw [dF (by omega)]
  rfl
 | succ n ih =>
  intro k j m vs h1 h2 h3 h4 h5
  obtain ⟨k,rfl⟩:∃ q,k = q + 1:=⟨k - 1,by omega⟩
  by_cases hj:j < l.length
  ·have hget:at_ tN l (j:Int) = l[j]:=atN tN l j hj
   have hp:=f25_eq l[j].2.1 (hs _ (List.getElem_mem hj))
   have hu:=f22_l6.eq_2 t0 l (l.length:Int) (j:Int) m vs k
   rw [dT (by omega)] at hu
   simp only [cond_true,inRN,dT hj,hget] at hu
   rw [List.drop_eq_getElem_cons hj]
   simp only [joinG]
   cases hq:parse (nbytes l[j].2.1) with
   | none =>
    rw [hq] at hp
    left
    exact ⟨rfl,hu.trans (bind_step hp rfl)⟩
   | some y =>
    obtain ⟨v,es⟩:=y
    rw [hq] at hp
    have hes:=parse_len hq
    simp only [Option.bind_some]
    have hs1:f22_l6 (k + 1) t0 l (l.length:Int) (j:Int) m vs = f22_l6 k t0 l (l.length:Int) ((j + 1:Nat):Int) (es.foldl mput m) (vs ++ [v]):=by
     refine hu.trans (bind_step hp ?_)
     show (bif decide ((0:Int) ≠ (0:Int)) then _ else (bif (decide (vs.length + ([v]:List Vx).length ≤ appLim)) then _ else none)) = _
     rw [dF (by simp),cond_false,appOk _ _ (by simp; omega),cond_true]
     refine bind_step (put_loop t0 l (l.length:Int) (j:Int) es (vs ++ [v]) (by omega) _ (by simp only [parsed]; omega) m) ?_
     show f22_l6 k t0 l (l.length:Int) (IntKind.wrap .i64 ((j:Int) + 1)) _ _ = _
     rw [wS j (by omega)]
    rcases ih k (j + 1) (es.foldl mput m) (vs ++ [v]) (by omega) (by omega) (by simp; omega) (by omega) h5 with ⟨a1,a2⟩ | ⟨m',vs',a1,a2,a3⟩
    ·exact .inl ⟨a1,hs1.trans a2⟩
    ·exact .inr ⟨m',vs',a1,a2,hs1.trans a3⟩
  ·right
   rw [List.drop_of_length_le (by omega)]
   refine ⟨m,vs,rfl,by omega,?_⟩
   unfold f22_l6
   rw [dF (by omega)]
   rfl
def eAt (m:MpE) (id:Nat):List Ed:=(mget m (id:Int)).toList
def edgesOf (m:MpE):List Ed:=(List.range' 0 40).flatMap (eAt m)
theorem take_edges (t0:List En) (m:MpE) (vs:List Vx):∀ (n k j:Nat) (acc:List Ed),40 - j ≤ n → n < k → j ≤ 40 → acc.length ≤ j →
  f22_l19 t0 m vs k (j:Int) acc = some ((t0,()),(),((),(),vs,acc ++ (List.range' j (40 - j)).flatMap (eAt m),())):=by
 intro n
 induction n with
 | zero =>
  intro k j acc h1 h2 h3 h4
  obtain ⟨k,rfl⟩:∃ q,k = q + 1:=⟨k - 1,by omega⟩
  unfold f22_l19
  rw [dF (by omega),show 40 - j = 0 by omega]
  simp <;> rfl
 | succ n ih =>
  intro k j acc h1 h2 h3 h4
  obtain ⟨k,rfl⟩:∃ q,k = q + 1:=⟨k - 1,by omega⟩
  by_cases hj:j < 40
  ·have hr:List.range' j (40 - j) = j :: List.range' (j + 1) (40 - (j + 1)):=by
    rw [show 40 - j = (40 - (j + 1)) + 1 by omega,List.range'_succ]
   unfold f22_l19
   rw [dT (by omega),cond_true,hr,List.flatMap_cons,← List.append_assoc]
   have he:eAt m j = (bif mapHas tI tE m (j:Int) then some (mapGet tI tE m (j:Int)) else none).toList:=rfl
   rw [he]
   show (bif mapHas tI tE m (j:Int) then _ else _) = _
   simp only [wS j (by omega)]
   cases hm:mapHas tI tE m (j:Int) with
   | true =>
    rw [cond_true,cond_true,appOk _ _ (by simp; omega),cond_true]
    exact ih k (j + 1) _ (by omega) (by omega) (by omega) (by simp; omega)
   | false =>
    rw [cond_false,cond_false,ih k (j + 1) _ (by omega) (by omega) (by omega) (by omega)]
    simp <;> rfl
  ·unfold f22_l19
   rw [dF (by omega),show 40 - j = 0 by omega]
   simp <;> rfl
theorem edgesOf_len (m:MpE):(edgesOf m).length ≤ 40:=by
 unfold edgesOf
 rw [List.length_flatMap]
 have h1:∀ i,(eAt m i).length ≤ 1:=fun i=>by unfold eAt; cases mget m (i:Int) <;> simp
 have:∀ (l:List Nat),(l.map fun a=>(eAt m a).length).sum ≤ l.length:=by
  intro l
  induction l with
  | nil=>simp
  | cons a l ih =>
   rw [List.map_cons,List.sum_cons,List.length_cons]
   have:=h1 a
   omega
 have h2:=this (List.range' 0 40)
 rw [List.length_range'] at h2
 exact h2
theorem same_loop {R:Type} (a b:List En) (n:Nat) (ha:a.length = n) (hb:b.length = n) (hn:n ≤ 1000) (F:Nat → Int → Option R) (yes no:R)
  (hF:∀ k (j:Nat),F (k + 1) (j:Int) = if h:j < n then (if a[j]'(by omega) = b[j]'(by omega) then F k ((j + 1:Nat):Int) else some no) else some yes) (k:Nat) (hk:n < k) :
  F k 0 = some (if a = b then yes else no):=by
 rcases idx_loop n (fun j=>if h:j < n then decide (a[j]'(by omega) = b[j]'(by omega)) else true) F yes no (by
  intro k j
  rw [hF k j]
  by_cases h:j < n
  ·rw [dif_pos h,if_pos h]
   simp only [h,dite_true,decide_eq_true_eq]
  ·rw [dif_neg h,if_neg h]) n k 0 (by omega) hk with ⟨h1,h2⟩ | ⟨⟨i,_,h1,h2⟩,h3⟩
 ·rw [if_pos]
  ·exact h2
  ·refine List.ext_getElem (by omega) fun i h3 h4=>?_
   have:=h1 i (Nat.zero_le _) (by omega)
   simpa [show i < n by omega] using this
 ·rw [if_neg]
  ·exact h3
  ·intro e
   subst e
   simp [h1] at h2
theorem en_eq (x y:En):(decide (x.1 = y.1) && (decide (x.2.1 = y.2.1) && true)) = decide (x = y):=by
 obtain ⟨a,b,u⟩:=x
 obtain ⟨c,d,w⟩:=y
 rw [Bool.eq_iff_iff]
 simp [Prod.ext_iff]
theorem f56_eq (a b:List En) (ha:a.length ≤ 1000):f56 a b = some (decide (a = b),()):=by
 unfold f56
 by_cases h:a.length = b.length
 ·rw [dF (by simp; omega),cond_false]
  have hs:=same_loop a b a.length rfl h.symm ha (fun k j=>f56_l4 a b (a.length:Int) k j) (.inl ((),(),())) (.inr ((false,()),(),())) (by
   intro k j
   show f56_l4 a b (a.length:Int) (k + 1) (j:Int) = _
   conv=>lhs; unfold f56_l4
   by_cases hj:j < a.length
   ·have g1:at_ tN a (j:Int) = a[j]:=atN tN a j hj
    have g2:at_ tN b (j:Int) = b[j]'(by omega):=atN tN b j (by omega)
    rw [dif_pos hj,dT (by omega)]
    simp only [cond_true,inRN,dT hj,dT (show j < b.length by omega),g1,g2,wS j (by omega),en_eq]
    by_cases he:a[j] = b[j]'(by omega)
    ·rw [dT he,if_pos he]; rfl
    ·rw [dF he,if_neg he]; rfl
   ·rw [dif_neg hj,dF (by omega)]; rfl) (((a.length:Int) - (0:Int)).toNat + 1) (by omega)
  by_cases e:a = b
  ·rw [dT e]; exact bind_step (hs.trans (congrArg some (if_pos e))) rfl
  ·rw [dF e]; exact bind_step (hs.trans (congrArg some (if_neg e))) rfl
 ·rw [dT (by simp; omega),cond_true,dF (fun e=>h (by rw [e]))]
def joinP (l:List En):Option Gr :=
 (joinG l.dropLast [] []).bind fun x=>(l.getLast?.bind fun y=>parseH (nbytes y.2.1)).bind fun y=>some (x.2,edgesOf x.1,y.1,())
def joined (l:List En) (o:Option Gr):Gr × Int × Unit :=
 match o with
 | none=>(([],[],[],()),60,())
 | some g=>if valid g = true ∧ entsG g.1 g.2.1 g.2.2.1 = l then (g,0,()) else (([],[],[],()),60,())
theorem parseH_len {bs:ByteArray} {ds n} (h:parseH (nbytes bs) = some (ds,n)):ds.length ≤ 3:=((parseH_iff bs ds n).1 h).len
theorem ents_len {vs es ds} (h:Ok vs es ds):(entsG vs es ds).length ≤ 25:=by
 unfold entsG
 have:=h.nv
 simp
 omega
theorem f22_eq (l:List En) (hs:szOk l) (h0:l ≠ []) (h1:l.length ≤ 25):f22 l = some (joined l (joinP l)):=by
 have hl0:0 < l.length:=List.length_pos_iff.2 h0
 have w1:IntKind.wrap .i64 ((l.length:Int) - (1:Int)) = ((l.length - 1:Nat):Int):=by rw [wrap_i64 _ (by omega) (by omega)]; omega
 have ht:l.take (Int.toNat ((l.length - 1:Nat):Int)) = l.dropLast:=by rw [Int.toNat_natCast,List.dropLast_eq_take]
 unfold f22
 rw [dF (by omega),cond_false,dF (by omega)]
 simp only [cond_false,w1,ht]
 rw [cutHi' _ _ (by omega),cond_true]
 have hs':szOk l.dropLast:=fun x hx=>hs x (List.dropLast_subset l hx)
 have hdl:l.dropLast.length = l.length - 1:=List.length_dropLast
 unfold joinP
 rcases join_rows l l.dropLast hs' l.dropLast.length (((l.dropLast.length:Int) - (0:Int)).toNat + 1) 0 [] [] (by omega) (by omega) (by simp) (by omega) (by omega) with ⟨a1,a2⟩ | ⟨m',vs',a1,a2,a3⟩
 ·rw [List.drop_zero] at a1
  rw [a1]
  exact bind_step a2 rfl
 ·rw [List.drop_zero] at a1
  rw [a1,Option.bind_some]
  refine bind_step a3 ?_
  refine bind_step (take_edges l m' vs' 40 (((40:Int) - (0:Int)).toNat + 1) 0 [] (by omega) (by decide) (by omega) (by simp)) ?_
  rw [List.nil_append]
  have hge:at_ tN l ((l.length - 1:Nat):Int) = l[l.length - 1]:=atN tN l (l.length - 1) (by omega)
  have hlast:l.getLast? = some l[l.length - 1]:=by rw [List.getLast?_eq_getElem?,List.getElem?_eq_getElem]
  show (bif inR (IntKind.wrap .i64 ((l.length:Int) - (1:Int))) l.length then (f27 (at_ tN l (IntKind.wrap .i64 ((l.length:Int) - (1:Int)))).2.1).bind _ else none) = _
  rw [w1,inRN,dT (by omega),cond_true,hge,hlast,Option.bind_some]
  have hp:=f27_eq l[l.length - 1].2.1 (hs _ (List.getElem_mem _))
  refine bind_step hp ?_
  cases hq:parseH (nbytes l[l.length - 1].2.1) with
  | none=>rfl
  | some y =>
   obtain ⟨ds,n⟩:=y
   have hd:=parseH_len hq
   show (f13 (vs',edgesOf m',ds,())).bind _ = _
   have he:=edgesOf_len m'
   have h13:=entries_all_p vs' (edgesOf m') ds (by omega) (by omega) (by omega)
   show _ = some (joined l (some (vs',edgesOf m',ds,())))
   unfold joined
   refine bind_step h13 ?_
   by_cases hv:valid (vs',edgesOf m',ds,()) = true
   ·rw [if_pos hv]
    have hok:=ok_of _ _ _ hv
    refine bind_step (f56_eq (entsG vs' (edgesOf m') ds) l (by have:=ents_len hok; omega)) ?_
    by_cases e:entsG vs' (edgesOf m') ds = l
    ·simp only [dT e]
     rw [if_pos ⟨hv,e⟩]
     rfl
    ·simp only [dF e]
     rw [if_neg (fun h=>e h.2)]
     rfl
   ·rw [if_neg hv]
    simp only
    rw [if_neg (fun h=>hv h.1)]
    rfl
theorem f22_short (l:List En) (h:l = [] ∨ 25 < l.length):f22 l = some (([],[],[],()),60,()):=by
 unfold f22
 rcases h with rfl | h
 ·rfl
 ·rw [dF (by omega),cond_false,dT (by omega)]
  rfl
end Go.V.G
namespace Go.V.G
open Go.Proofs
theorem f57_eq (vs:List Vx) (es:List Ed) (ds:List Int) (id:Int) (hl:es.length ≤ 100000):∃ n,f57 (vs,es,ds,()) id = some (n,()) ∧ decide (n ≥ 0) = es.any (fun e=>decide (e.1 = id)):=by
 have h:=find_loop tE (fun e=>!decide (e.1 = id)) (fun k j=>f57_l2 id vs es ds k j) (.inl ((),(),())) (fun i=>.inr (((i:Int),()),(),())) es (by
  intro k j
  show f57_l2 id vs es ds (k + 1) (j:Int) = _
  conv=>lhs; unfold f57_l2
  by_cases hj:j < es.length
  ·have hget:at_ tE es (j:Int) = es[j]:=atN tE es j hj
   rw [dT (by omega),dif_pos hj]
   simp only [cond_true,inRN,dT hj,hget,wS j (by omega)]
   by_cases c:es[j].1 = id
   ·rw [dT c]; rfl
   ·rw [dF c]; rfl
  ·rw [dF (by omega),dif_neg hj]; rfl) es.length (((es.length:Int) - (0:Int)).toNat + 1) 0 (by omega) (by omega)
 have e1:es.any (fun e=>decide (e.1 = id)) = !(es.all fun e=>!decide (e.1 = id)):=by
  rw [List.not_all_eq_any_not]
  simp
 rw [e1]
 rw [List.drop_zero] at h
 unfold f57
 rcases h with ⟨h1,h2⟩ | ⟨h1,i,_,_,h2⟩
 ·refine ⟨-1,bind_step h2 rfl,?_⟩
  rw [h1]; rfl
 ·refine ⟨(i:Int),bind_step h2 rfl,?_⟩
  rw [h1,dT (by omega)]; rfl
def ltE (k:Int) (e:Ed):Bool:=decide (e.1 < k)
theorem pos_loop (t0:List En) (t5 t6:Int) (t8:List Ed) (t10:Nat) (h10:t10 < t8.length) (r51:List Vx) (es:List Ed) (hl:es.length ≤ 100000):∀ (m k j:Nat),es.length - j ≤ m → m < k → j ≤ es.length →
  f23_l17 t0 t5 t6 t8 (t10:Int) r51 es k (j:Int) = some ((t0,t5,t6,t8,(t10:Int),((j + ((es.drop j).takeWhile (ltE t8[t10].1)).length:Nat):Int),()),(),((),(),r51,es,())):=by
 intro m
 induction m with
 | zero =>
  intro k j h1 h2 h3
  obtain ⟨k,rfl⟩:∃ q,k = q + 1:=⟨k - 1,by omega⟩
  unfold f23_l17
  rw [dF (by omega),List.drop_of_length_le (by omega)]
  rfl
 | succ m ih =>
  intro k j h1 h2 h3
  obtain ⟨k,rfl⟩:∃ q,k = q + 1:=⟨k - 1,by omega⟩
  by_cases hj:j < es.length
  ·have hget:at_ tE es (j:Int) = es[j]:=atN tE es j hj
   have hge8:at_ tE t8 (t10:Int) = t8[t10]:=atN tE t8 t10 h10
   unfold f23_l17
   rw [dT (by omega),List.drop_eq_getElem_cons hj,List.takeWhile_cons]
   simp only [cond_true,inRN,dT hj,dT h10,hget,hge8,wS j (by omega)]
   by_cases c:es[j].1 < t8[t10].1
   ·have c':ltE t8[t10].1 es[j] = true:=dT c
    rw [dT c,cond_true,if_pos c',ih k (j + 1) (by omega) (by omega) (by omega)]
    rw [List.length_cons,show j + (((es.drop (j + 1)).takeWhile (ltE t8[t10].1)).length + 1) = j + 1 + ((es.drop (j + 1)).takeWhile (ltE t8[t10].1)).length by omega]
   ·have c':¬ ltE t8[t10].1 es[j] = true:=by unfold ltE; simp; omega
    rw [dF c,cond_false,if_neg c']
    rfl
  ·unfold f23_l17
   rw [dF (by omega),List.drop_of_length_le (by omega)]
   rfl
def insE (es:List Ed) (e:Ed):List Ed:=if es.any (fun x=>decide (x.1 = e.1)) = true then es else es.takeWhile (ltE e.1) ++ ([e] ++ es.dropWhile (ltE e.1))
theorem insE_len (es:List Ed) (e:Ed):(insE es e).length ≤ es.length + 1:=by
 unfold insE
 split
 ·omega
 ·have:=congrArg List.length (List.takeWhile_append_dropWhile (p:=ltE e.1) (l:=es))
  rw [List.length_append] at this
  simp only [List.length_append,List.length_singleton]
  omega
theorem ins_loop (t0:List En) (t5 t6:Int) (t8:List Ed) (h8:t8.length ≤ 1000) (r51:List Vx) (es:List Ed) (hl:es.length ≤ 10000) (k:Nat) (hk:t8.length < k) :
  f23_l13 k t0 t5 t6 t8 0 r51 es = some ((t0,t5,t6,()),(),((),(),r51,t8.foldl insE es,())):=by
 have hl:=fold_loop tE insE (fun k j acc=>f23_l13 k t0 t5 t6 t8 j r51 acc) (fun r=>((t0,t5,t6,()),(),((),(),r51,r,()))) (fun j acc=>acc.length ≤ 10000 + j ∧ j ≤ 1000) t8 (by
  intro k j acc hI
  show f23_l13 (k + 1) t0 t5 t6 t8 (j:Int) r51 acc = _
  conv=>lhs; unfold f23_l13
  by_cases hj:j < t8.length
  ·have hget:at_ tE t8 (j:Int) = t8[j]:=atN tE t8 j hj
   rw [dif_pos hj,dT (by omega)]
   simp only [cond_true,inRN,dT hj,hget]
   obtain ⟨n,h1,h2⟩:=f57_eq r51 acc [] t8[j].1 (by omega)
   refine bind_step h1 ?_
   show (bif decide (n ≥ 0) then _ else _) = _
   rw [h2]
   unfold insE
   cases ha:acc.any (fun x=>decide (x.1 = t8[j].1)) with
   | true =>
    rw [cond_true,if_pos rfl,wS j (by omega)]
   | false =>
    rw [cond_false,if_neg (by simp)]
    have hp:=pos_loop t0 t5 t6 t8 j hj r51 acc (by omega) acc.length (((acc.length:Int) - (0:Int)).toNat + 1) 0 (by omega) (by omega) (by omega)
    refine bind_step hp ?_
    rw [List.drop_zero,Nat.zero_add]
    have htd:=List.takeWhile_append_dropWhile (p:=ltE t8[j].1) (l:=acc)
    have hlen:=congrArg List.length htd
    rw [List.length_append] at hlen
    have t1:(acc.drop 0).take (cutLen acc.length none (some (((acc.takeWhile (ltE t8[j].1)).length:Nat):Int))) = acc.takeWhile (ltE t8[j].1):=by
     rw [cutLenHi,List.drop_zero]
     conv=>lhs; arg 2; rw [← htd]
     rw [List.take_left']
     rfl
    have t2:(acc.drop (Int.toNat (((acc.takeWhile (ltE t8[j].1)).length:Nat):Int))).take (cutLen acc.length (some (((acc.takeWhile (ltE t8[j].1)).length:Nat):Int)) none) = acc.dropWhile (ltE t8[j].1):=by
     have:acc.drop (acc.takeWhile (ltE t8[j].1)).length = acc.dropWhile (ltE t8[j].1):=by
      conv=>lhs; arg 2; rw [← htd]
      rw [List.drop_left']
      rfl
     rw [Int.toNat_natCast,cutLenLo,this,List.take_of_length_le (by omega)]
    simp only [t1,t2,hget,cutHi' acc.length _ (show (acc.takeWhile (ltE t8[j].1)).length ≤ acc.length by omega),cutLo acc.length _ (show (acc.takeWhile (ltE t8[j].1)).length ≤ acc.length by omega),decide_true,Bool.and_self,cond_true,inRN,dT hj,wS j (by omega)]
    rw [appOk _ _ (by simp; omega),cond_true,appOk _ _ (by simp; omega),cond_true]
    rw [List.drop_zero] at t1
    rw [t1]
  ·rw [dF (by omega),dif_neg hj]; rfl) (by
  intro j acc hj hI
  have:=insE_len acc t8[j]
  show (insE acc t8[j]).length ≤ _ ∧ _
  omega)
 have h2:=hl t8.length k 0 es (by omega) hk (by omega)
 rw [List.drop_zero] at h2
 exact h2
def joinR:List En → List Vx → List Ed → Option (List Vx × List Ed)
 | [],vs,es=>some (vs,es)
 | x :: l,vs,es=>(parse (nbytes x.2.1)).bind fun y=>joinR l (vs ++ [y.1]) (y.2.foldl insE es)
theorem fold_insE_len:∀ (l es:List Ed),(l.foldl insE es).length ≤ es.length + l.length
 | [],es=>by simp
 | e :: l,es=>by
  have h1:=fold_insE_len l (insE es e)
  have h2:=insE_len es e
  rw [List.foldl_cons,List.length_cons]
  omega
theorem rjoin_rows (l:List En) (hs:szOk l) (c:Nat) (hc:c ≤ l.length):∀ (n k j:Nat) (vs:List Vx) (es:List Ed),c - j ≤ n → n < k → vs.length ≤ j → es.length ≤ 40 * j → j ≤ c → c ≤ 100 →
  (joinR ((l.take c).drop j) vs es = none ∧ f23_l6 k l (c:Int) (j:Int) vs es = some (.inr ((60,()),(),((),())))) ∨
  ∃ vs' es',joinR ((l.take c).drop j) vs es = some (vs',es') ∧ vs'.length ≤ c ∧ es'.length ≤ 40 * c ∧ f23_l6 k l (c:Int) (j:Int) vs es = some (.inl ((l,(c:Int),()),(),((),(),vs',es',()))):=by
 intro n
 induction n with
 | zero =>
  intro k j vs es h1 h2 h3 h4 h5 h6
  obtain ⟨k,rfl⟩:∃ q,k = q + 1:=⟨k - 1,by omega⟩
  right
  rw [List.drop_of_length_le (by rw [List.length_take]; omega)]
  refine ⟨vs,es,rfl,by omega,by omega,?_⟩
  unfold f23_l6
  rw [dF (by omega)]
  rfl
 | succ n ih =>
  intro k j vs es h1 h2 h3 h4 h5 h6
  obtain ⟨k,rfl⟩:∃ q,k = q + 1:=⟨k - 1,by omega⟩
  by_cases hj:j < c
  ·have hjl:j < l.length:=by omega
   have hget:at_ tN l (j:Int) = l[j]:=atN tN l j hjl
   have hp:=f26_eq l[j].2.1 (hs _ (List.getElem_mem hjl))
   have hu:=f23_l6.eq_2 l (c:Int) (j:Int) vs es k
   rw [dT (by omega)] at hu
   simp only [cond_true,inRN,dT hjl,hget] at hu
   rw [List.drop_eq_getElem_cons (by rw [List.length_take]; omega),List.getElem_take]
   simp only [joinR]
   cases hq:parse (nbytes l[j].2.1) with
   | none =>
    rw [hq] at hp
    left
    exact ⟨rfl,hu.trans (bind_step hp rfl)⟩
   | some y =>
    obtain ⟨v,es2⟩:=y
    rw [hq] at hp
    have hes:=parse_len hq
    simp only [Option.bind_some]
    have hs1:f23_l6 (k + 1) l (c:Int) (j:Int) vs es = f23_l6 k l (c:Int) ((j + 1:Nat):Int) (vs ++ [v]) (es2.foldl insE es):=by
     refine hu.trans (bind_step hp ?_)
     show (bif decide ((0:Int) ≠ (0:Int)) then _ else (bif (decide (vs.length + ([v]:List Vx).length ≤ appLim)) then _ else none)) = _
     rw [dF (by simp),cond_false,appOk _ _ (by simp; omega),cond_true]
     refine bind_step (ins_loop l (c:Int) (j:Int) es2 (by omega) (vs ++ [v]) es (by omega) _ (by simp only [parsed]; omega)) ?_
     show f23_l6 k l (c:Int) (IntKind.wrap .i64 ((j:Int) + 1)) _ _ = _
     rw [wS j (by omega)]
    have hf:=fold_insE_len es2 es
    rcases ih k (j + 1) (vs ++ [v]) (es2.foldl insE es) (by omega) (by omega) (by simp; omega) (by omega) (by omega) h6 with ⟨a1,a2⟩ | ⟨vs',es',a1,a2,a3,a4⟩
    ·exact .inl ⟨a1,hs1.trans a2⟩
    ·exact .inr ⟨vs',es',a1,a2,a3,hs1.trans a4⟩
  ·right
   rw [List.drop_of_length_le (by rw [List.length_take]; omega)]
   refine ⟨vs,es,rfl,by omega,by omega,?_⟩
   unfold f23_l6
   rw [dF (by omega)]
   rfl
theorem f17_eq (a b:List En) (ha:a.length ≤ 1000):f17 a b = some (decide (a = b),()):=by
 unfold f17
 by_cases h:a.length = b.length
 ·rw [dF (by simp; omega),cond_false]
  have hs:=same_loop a b a.length rfl h.symm ha (fun k j=>f17_l4 a b k j) (.inl ((),(),())) (.inr ((false,()),(),())) (by
   intro k j
   show f17_l4 a b (k + 1) (j:Int) = _
   conv=>lhs; unfold f17_l4
   by_cases hj:j < a.length
   ·have g1:at_ tN a (j:Int) = a[j]:=atN tN a j hj
    have g2:at_ tN b (j:Int) = b[j]'(by omega):=atN tN b j (by omega)
    rw [dif_pos hj,dT (by omega)]
    simp only [cond_true,inRN,dT hj,dT (show j < b.length by omega),g1,g2,wS j (by omega),en_eq]
    by_cases he:a[j] = b[j]'(by omega)
    ·rw [dT he,if_pos he]; rfl
    ·rw [dF he,if_neg he]; rfl
   ·rw [dif_neg hj,dF (by omega)]; rfl) (((a.length:Int) - (0:Int)).toNat + 1) (by omega)
  by_cases e:a = b
  ·rw [dT e]; exact bind_step (hs.trans (congrArg some (if_pos e))) rfl
  ·rw [dF e]; exact bind_step (hs.trans (congrArg some (if_neg e))) rfl
 ·rw [dT (by simp; omega),cond_true,dF (fun e=>h (by rw [e]))]
def joinRP (l:List En):Option Gr :=
 (joinR l.dropLast [] []).bind fun x=>(l.getLast?.bind fun y=>parseH (nbytes y.2.1)).bind fun y=>some (x.1,x.2,y.1,())
theorem f23_eq (l:List En) (hs:szOk l) (h0:l ≠ []) (h1:l.length ≤ 25):f23 l = some (joined l (joinRP l)):=by
 have hl0:0 < l.length:=List.length_pos_iff.2 h0
 have w1:IntKind.wrap .i64 ((l.length:Int) - (1:Int)) = ((l.length - 1:Nat):Int):=by rw [wrap_i64 _ (by omega) (by omega)]; omega
 unfold f23
 simp only [w1]
 rw [dF (by omega),cond_false,dF (by omega),cond_false]
 unfold joinRP
 rcases rjoin_rows l hs (l.length - 1) (by omega) (l.length - 1) ((((l.length - 1:Nat):Int) - (0:Int)).toNat + 1) 0 [] [] (by omega) (by omega) (by simp) (by simp) (by omega) (by omega) with ⟨a1,a2⟩ | ⟨vs',es',a1,a2,a3,a4⟩
 ·rw [List.drop_zero,← List.dropLast_eq_take] at a1
  rw [a1]
  exact bind_step a2 rfl
 ·rw [List.drop_zero,← List.dropLast_eq_take] at a1
  rw [a1,Option.bind_some]
  refine bind_step a4 ?_
  have hge:at_ tN l ((l.length - 1:Nat):Int) = l[l.length - 1]:=atN tN l (l.length - 1) (by omega)
  have hlast:l.getLast? = some l[l.length - 1]:=by rw [List.getLast?_eq_getElem?,List.getElem?_eq_getElem]
  show (bif inR ((l.length - 1:Nat):Int) l.length then (f28 (at_ tN l ((l.length - 1:Nat):Int)).2.1).bind _ else none) = _
  rw [inRN,dT (by omega),cond_true,hge,hlast,Option.bind_some]
  have hp:=f28_eq l[l.length - 1].2.1 (hs _ (List.getElem_mem _))
  refine bind_step hp ?_
  cases hq:parseH (nbytes l[l.length - 1].2.1) with
  | none=>rfl
  | some y =>
   obtain ⟨ds,n⟩:=y
   have hd:=parseH_len hq
   show (f14 (vs',es',ds,())).bind _ = _
   have h14:=entries_all_r vs' es' ds (by omega) (by omega) (by omega)
   show _ = some (joined l (some (vs',es',ds,())))
   unfold joined
   refine bind_step h14 ?_
   by_cases hv:valid (vs',es',ds,()) = true
   ·rw [if_pos hv]
    have hok:=ok_of _ _ _ hv
    refine bind_step (f17_eq (entsG vs' es' ds) l (by have:=ents_len hok; omega)) ?_
    by_cases e:entsG vs' es' ds = l
    ·simp only [dT e]
     rw [if_pos ⟨hv,e⟩]
     rfl
    ·simp only [dF e]
     rw [if_neg (fun h=>e h.2)]
     rfl
   ·rw [if_neg hv]
    simp only
    rw [if_neg (fun h=>hv h.1)]
    rfl
theorem f23_short (l:List En) (h:l = [] ∨ 25 < l.length) (hl:l.length ≤ 1099511627776):f23 l = some (([],[],[],()),60,()):=by
 unfold f23
 rcases h with rfl | h
 ·rfl
 ·have w1:IntKind.wrap .i64 ((l.length:Int) - (1:Int)) = ((l.length - 1:Nat):Int):=by rw [wrap_i64 _ (by omega) (by omega)]; omega
  simp only [w1]
  rw [dF (by omega),cond_false,dT (by omega)]
  rfl
end Go.V.G
namespace Go.V.G
open Go.Proofs
theorem good_of {vs es ds} (h:Ok vs es ds) {v:Vx} (hv:v ∈ vs):good v (atE es v.1) = true:=by
 unfold good
 simp only [Bool.and_eq_true,List.all_eq_true]
 refine ⟨⟨?_,?_⟩,fun e he=>?_⟩
 ·have:=h.okv v hv
  unfold okV
  simp only [Bool.and_eq_true,decide_eq_true_eq]
  omega
 ·exact (asc_pairwise kE).2 (((asc_pairwise kE).1 h.ae).filter _)
 ·obtain ⟨h1,h2⟩:=List.mem_filter.1 he
  exact ⟨h.oke e h1,h2⟩
theorem parse_row {vs es ds} (h:Ok vs es ds) {v:Vx} (hv:v ∈ vs):parse (nbytes (rowV es v).2.1) = some (v,atE es v.1) :=
 (parse_iff _ _ _).2 ⟨rfl,good_of h hv⟩
theorem parseH_head {vs es ds} (h:Ok vs es ds):parseH (nbytes (encs (headN es ds))) = some (ds,(bitsE es:Int)):=by
 have hb:=bits_small h
 refine (parseH_iff _ _ _).2 ⟨?_,h.dl,h.ad,h.did,by omega,by omega⟩
 rfl
theorem joinG_rows {vs es ds} (h:Ok vs es ds):∀ (l acc:List Vx) (m:MpE),(∀ v ∈ l,v ∈ vs) → joinG (l.map (rowV es)) m acc = some ((l.flatMap fun v=>atE es v.1).foldl mput m,acc ++ l)
 | [],acc,m,_=>by simp [joinG]
 | v :: l,acc,m,hl=>by
  rw [List.map_cons]
  simp only [joinG]
  rw [parse_row h (hl v (List.mem_cons_self ..)),Option.bind_some]
  simp only
  rw [joinG_rows h l (acc ++ [v]) _ (fun x hx=>hl x (List.mem_cons_of_mem _ hx)),List.flatMap_cons,List.foldl_append,List.append_assoc]
  rfl
theorem joinR_rows {vs es ds} (h:Ok vs es ds):∀ (l acc:List Vx) (m:List Ed),(∀ v ∈ l,v ∈ vs) → joinR (l.map (rowV es)) acc m = some (acc ++ l,(l.flatMap fun v=>atE es v.1).foldl insE m)
 | [],acc,m,_=>by simp [joinR]
 | v :: l,acc,m,hl=>by
  rw [List.map_cons]
  simp only [joinR]
  rw [parse_row h (hl v (List.mem_cons_self ..)),Option.bind_some]
  simp only
  rw [joinR_rows h l (acc ++ [v]) _ (fun x hx=>hl x (List.mem_cons_of_mem _ hx)),List.flatMap_cons,List.foldl_append,List.append_assoc]
  rfl
theorem all_at {vs es ds} (h:Ok vs es ds) (e:Ed):e ∈ (vs.flatMap fun v=>atE es v.1) ↔ e ∈ es:=by
 rw [List.mem_flatMap]
 constructor
 ·rintro ⟨v,_,h1⟩
  exact (List.mem_filter.1 h1).1
 ·intro he
  have h1:=h.hs e he
  unfold hasV at h1
  obtain ⟨v,hv,h2⟩:=List.any_eq_true.1 h1
  simp only [decide_eq_true_eq] at h2
  exact ⟨v,hv,List.mem_filter.2 ⟨he,by simp [h2]⟩⟩
theorem id_inj {es:List Ed} (h:asc kE es = true):∀ {a b:Ed},a ∈ es → b ∈ es → a.1 = b.1 → a = b:=by
 have hp:=(asc_pairwise kE).1 h
 clear h
 induction es with
 | nil=>intro a b ha; simp at ha
 | cons x l ih =>
  obtain ⟨h1,h2⟩:=List.pairwise_cons.1 hp
  intro a b ha hb hab
  rcases List.mem_cons.1 ha with ha1 | ha1 <;> rcases List.mem_cons.1 hb with hb1 | hb1
  ·rw [ha1,hb1]
  ·have:x.1 < b.1:=h1 b hb1
   rw [ha1] at hab
   omega
  ·have:x.1 < a.1:=h1 a ha1
   rw [hb1] at hab
   omega
  ·exact ih h2 ha1 hb1 hab
theorem puts_spec {es:List Ed} (ha:asc kE es = true):∀ (l:List Ed) (m:MpE),(∀ e ∈ l,e ∈ es) → (∀ k e,mget m k = some e → e ∈ es ∧ e.1 = k) →
  (∀ k e,mget (l.foldl mput m) k = some e → e ∈ es ∧ e.1 = k) ∧ (∀ e ∈ l,mget (l.foldl mput m) e.1 = some e) ∧ (∀ k e,mget m k = some e → mget (l.foldl mput m) k = some e)
 | [],m,_,hm=>⟨hm,fun e he=>by simp at he,fun k e h=>h⟩
 | x :: l,m,hl,hm=>by
  have hx:=hl x (List.mem_cons_self ..)
  have hm':∀ k e,mget (mput m x) k = some e → e ∈ es ∧ e.1 = k:=by
   intro k e h
   rw [mget_put] at h
   split at h
   ·rename_i hk
    cases h
    exact ⟨hx,hk.symm⟩
   ·exact hm k e h
  obtain ⟨h1,h2,h3⟩:=puts_spec ha l (mput m x) (fun e he=>hl e (List.mem_cons_of_mem _ he)) hm'
  refine ⟨h1,fun e he=>?_,fun k e hk=>?_⟩
  ·rcases List.mem_cons.1 he with rfl | he
   ·exact h3 e.1 e (by rw [mget_put,if_pos rfl])
   ·exact h2 e he
  ·refine h3 k e ?_
   rw [mget_put]
   split
   ·rename_i hkx
    obtain ⟨h4,h5⟩:=hm k e hk
    rw [id_inj ha hx h4 (by omega)]
   ·exact hk
theorem eAt_key {es:List Ed} {m:MpE} (h:∀ k e,mget m k = some e → e ∈ es ∧ e.1 = k) (i:Nat) (x:Ed) (hx:x ∈ eAt m i):kE x = (i:Int):=by
 unfold eAt at hx
 rw [Option.mem_toList] at hx
 exact (h _ _ hx).2
theorem edgesOf_eq {vs es ds} (h:Ok vs es ds):edgesOf ((vs.flatMap fun v=>atE es v.1).foldl mput []) = es:=by
 obtain ⟨h1,h2,_⟩:=puts_spec h.ae (vs.flatMap fun v=>atE es v.1) [] (fun e he=>(all_at h e).1 he) (fun k e hk=>by cases hk)
 refine asc_ext kE _ _ ?_ ((asc_pairwise kE).1 h.ae) fun x=>⟨fun hx=>?_,fun hx=>?_⟩
 ·exact (pairwise_flatMap_range (eAt _) kE (eAt_key h1) (fun i=>by unfold eAt; cases mget _ (i:Int) <;> simp) 40 0).1
 ·unfold edgesOf at hx
  obtain ⟨i,_,h3⟩:=List.mem_flatMap.1 hx
  unfold eAt at h3
  rw [Option.mem_toList] at h3
  exact (h1 _ _ h3).1
 ·have h3:=h2 x ((all_at h x).2 hx)
  have h4:=h.eid x hx
  refine List.mem_flatMap.2 ⟨x.1.toNat,by rw [List.mem_range'_1]; omega,?_⟩
  unfold eAt
  rw [Option.mem_toList,show ((x.1.toNat:Nat):Int) = x.1 by omega]
  exact h3
theorem drop_ge:∀ (l:List Ed) (k:Int),l.Pairwise (fun a b=>kE a < kE b) → ∀ x ∈ l.dropWhile (ltE k),k ≤ x.1
 | [],k,_,x,hx=>by simp at hx
 | a :: l,k,h,x,hx=>by
  obtain ⟨h1,h2⟩:=List.pairwise_cons.1 h
  rw [List.dropWhile_cons] at hx
  split at hx
  ·exact drop_ge l k h2 x hx
  ·rename_i hc
   unfold ltE at hc
   simp only [decide_eq_true_eq] at hc
   rcases List.mem_cons.1 hx with rfl | hx
   ·omega
   ·have:a.1 < x.1:=h1 x hx
    omega
theorem take_lt (l:List Ed) (k:Int):∀ x ∈ l.takeWhile (ltE k),x.1 < k:=by
 intro x hx
 have:=List.all_takeWhile (p:=ltE k) (l:=l)
 rw [List.all_eq_true] at this
 have h:=this x hx
 unfold ltE at h
 simpa using h
theorem insE_asc {l:List Ed} {e:Ed} (h:l.Pairwise (fun a b=>kE a < kE b)):(insE l e).Pairwise (fun a b=>kE a < kE b):=by
 unfold insE
 split
 ·exact h
 ·rename_i hn
  have hne:∀ x ∈ l,x.1 ≠ e.1:=fun x hx hxe=>hn (List.any_eq_true.2 ⟨x,hx,by simp [hxe]⟩)
  have htd:=List.takeWhile_append_dropWhile (p:=ltE e.1) (l:=l)
  rw [← htd] at h
  obtain ⟨h1,h2,h3⟩:=List.pairwise_append.1 h
  have hg:∀ x ∈ l.dropWhile (ltE e.1),e.1 < x.1:=fun x hx=>by
   have h4:=drop_ge l e.1 (by rw [← htd]; exact h) x hx
   have h5:=hne x ((List.dropWhile_sublist _).subset hx)
   omega
  refine List.pairwise_append.2 ⟨h1,List.pairwise_cons.2 ⟨hg,h2⟩,fun a ha b hb=>?_⟩
  have h6:=take_lt l e.1 a ha
  rcases List.mem_cons.1 hb with rfl | hb
  ·exact h6
  ·have:=hg b hb
   show a.1 < b.1
   omega
theorem insE_mem {l:List Ed} {e x:Ed}:x ∈ insE l e ↔ x ∈ l ∨ (x = e ∧ l.any (fun y=>decide (y.1 = e.1)) = false):=by
 unfold insE
 split
 ·rename_i h
  simp [h]
 ·rename_i h
  have h':l.any (fun y=>decide (y.1 = e.1)) = false:=by rw [Bool.not_eq_true] at h; exact h
  rw [h']
  have htd:=List.takeWhile_append_dropWhile (p:=ltE e.1) (l:=l)
  have hmem:x ∈ l ↔ x ∈ l.takeWhile (ltE e.1) ∨ x ∈ l.dropWhile (ltE e.1):=by
   rw [← List.mem_append,htd]
  rw [hmem]
  show x ∈ l.takeWhile (ltE e.1) ++ (e :: l.dropWhile (ltE e.1)) ↔ _
  rw [List.mem_append,List.mem_cons]
  constructor
  ·rintro (a | a | a)
   ·exact .inl (.inl a)
   ·exact .inr ⟨a,rfl⟩
   ·exact .inl (.inr a)
  ·rintro ((a | a) | a)
   ·exact .inl a
   ·exact .inr (.inr a)
   ·exact .inr (.inl a.1)
theorem ins_spec {es:List Ed} (ha:asc kE es = true):∀ (l m:List Ed),(∀ e ∈ l,e ∈ es) → (∀ e ∈ m,e ∈ es) → m.Pairwise (fun a b=>kE a < kE b) →
  (l.foldl insE m).Pairwise (fun a b=>kE a < kE b) ∧ (∀ x,x ∈ l.foldl insE m ↔ x ∈ m ∨ x ∈ l)
 | [],m,_,_,hp=>⟨hp,fun x=>by simp⟩
 | e :: l,m,hl,hm,hp=>by
  have he:=hl e (List.mem_cons_self ..)
  have hmem:∀ x,x ∈ insE m e ↔ x ∈ m ∨ x = e:=by
   intro x
   rw [insE_mem]
   constructor
   ·rintro (h | h)
    ·exact .inl h
    ·exact .inr h.1
   ·rintro (h | h)
    ·exact .inl h
    ·subst h
     cases hc:m.any (fun y=>decide (y.1 = x.1)) with
     | false=>exact .inr ⟨rfl,rfl⟩
     | true =>
      obtain ⟨y,hy,h1⟩:=List.any_eq_true.1 hc
      simp only [decide_eq_true_eq] at h1
      have:=id_inj ha (hm y hy) he h1
      subst this
      exact .inl hy
  obtain ⟨h1,h2⟩:=ins_spec ha l (insE m e) (fun x hx=>hl x (List.mem_cons_of_mem _ hx)) (fun x hx=>by
   rcases (hmem x).1 hx with h | h
   ·exact hm x h
   ·rw [h]; exact he) (insE_asc hp)
  refine ⟨h1,fun x=>?_⟩
  rw [List.foldl_cons,h2,hmem,List.mem_cons]
  constructor
  ·rintro ((h | h) | h)
   ·exact .inl h
   ·exact .inr (.inl h)
   ·exact .inr (.inr h)
  ·rintro (h | h | h)
   ·exact .inl (.inl h)
   ·exact .inl (.inr h)
   ·exact .inr h
theorem joinP_ents {vs es ds} (h:Ok vs es ds):joinP (entsG vs es ds) = some (vs,es,ds,()):=by
 unfold joinP entsG
 rw [List.dropLast_concat,List.getLast?_concat,joinG_rows h vs [] [] (fun v hv=>hv),Option.bind_some,Option.bind_some]
 simp only
 rw [parseH_head h,Option.bind_some]
 simp only
 rw [edgesOf_eq h,List.nil_append]
theorem joinRP_ents {vs es ds} (h:Ok vs es ds):joinRP (entsG vs es ds) = some (vs,es,ds,()):=by
 unfold joinRP entsG
 rw [List.dropLast_concat,List.getLast?_concat,joinR_rows h vs [] [] (fun v hv=>hv),Option.bind_some,Option.bind_some]
 simp only
 rw [parseH_head h,Option.bind_some]
 simp only
 obtain ⟨h1,h2⟩:=ins_spec h.ae (vs.flatMap fun v=>atE es v.1) [] (fun e he=>(all_at h e).1 he) (fun e he=>by simp at he) List.Pairwise.nil
 rw [asc_ext kE _ es h1 ((asc_pairwise kE).1 h.ae) (fun x=>by rw [h2,all_at h]; simp),List.nil_append]
theorem joined_yes {vs es ds} (hv:valid (vs,es,ds,()) = true):joined (entsG vs es ds) (some (vs,es,ds,())) = ((vs,es,ds,()),0,()):=by
 unfold joined
 exact if_pos ⟨hv,rfl⟩
theorem joined_no {l:List En} (h:∀ g:Gr,valid g = true → entsG g.1 g.2.1 g.2.2.1 ≠ l) (o:Option Gr):joined l o = (([],[],[],()),60,()):=by
 unfold joined
 cases o with
 | none=>rfl
 | some g=>exact if_neg (fun hc=>h g hc.1 hc.2)
theorem ents_ne (vs es ds):entsG vs es ds ≠ []:=by unfold entsG; simp
theorem ents_szOk {vs es ds} (h:Ok vs es ds):szOk (entsG vs es ds):=fun x hx=>by
 have:=((ents_valid h).val x hx).2
 omega
theorem join_yes {vs es ds} (hv:valid (vs,es,ds,()) = true):f22 (entsG vs es ds) = some ((vs,es,ds,()),0,()):=by
 have h:=ok_of _ _ _ hv
 rw [f22_eq _ (ents_szOk h) (ents_ne _ _ _) (ents_len h),joinP_ents h,joined_yes hv]
theorem join_no {l:List En} (hs:szOk l) (h:∀ g:Gr,valid g = true → entsG g.1 g.2.1 g.2.2.1 ≠ l):f22 l = some (([],[],[],()),60,()):=by
 by_cases hc:l = [] ∨ 25 < l.length
 ·exact f22_short l hc
 ·have h0:l ≠ []:=fun e=>hc (.inl e)
  rw [f22_eq l hs h0 (by omega),joined_no h]
theorem rjoin_yes {vs es ds} (hv:valid (vs,es,ds,()) = true):f23 (entsG vs es ds) = some ((vs,es,ds,()),0,()):=by
 have h:=ok_of _ _ _ hv
 rw [f23_eq _ (ents_szOk h) (ents_ne _ _ _) (ents_len h),joinRP_ents h,joined_yes hv]
theorem rjoin_no {l:List En} (hs:szOk l) (hl:l.length ≤ 1099511627776) (h:∀ g:Gr,valid g = true → entsG g.1 g.2.1 g.2.2.1 ≠ l):f23 l = some (([],[],[],()),60,()):=by
 by_cases hc:l = [] ∨ 25 < l.length
 ·exact f23_short l hc hl
 ·have h0:l ≠ []:=fun e=>hc (.inl e)
  rw [f23_eq l hs h0 (by omega),joined_no h]
end Go.V.G
namespace Go.V.G
open Go.Proofs
theorem ends_loopF (es:List Ed) (id:Int) (h:es.length ≤ 1000) (k:Nat) (hk:es.length < k):f31_l2 es (es.length:Int) id k 0 [] = some ((),(),((id,()),(atE es id).map (farE id),())):=by
 have hl:=fold_loop tE (fun (acc:List Int) (e:Ed)=>if isAt id e = true then acc ++ [farE id e] else acc) (fun k j acc=>f31_l2 es (es.length:Int) id k j acc) (fun r=>((),(),((id,()),r,()))) (fun j acc=>acc.length ≤ j) es (by
  intro k j acc hI
  show f31_l2 es (es.length:Int) id (k + 1) (j:Int) acc = _
  conv=>lhs; unfold f31_l2
  by_cases hj:j < es.length
  ·have e1:decide ((j:Int) < (es.length:Int)) = true:=by simp; omega
   have hget:at_ tE es (j:Int) = es[j]:=atN tE es j hj
   have hap:∀ n:Int,decide (acc.length + ([n]:List Int).length ≤ appLim) = true:=fun e=>appOk _ _ (by simp; omega)
   rw [dif_pos hj]
   simp only [e1,cond_true,inRN,dT hj,wS j (by omega),hget,f64_eq,Option.bind_some,hap]
   unfold isAt
   by_cases h1:es[j].2.1 = id
   ·simp [h1]
   ·by_cases h2:es[j].2.2.1 = id
    ·simp [h1,h2]
    ·simp [h1,h2]
  ·have e1:decide ((j:Int) < (es.length:Int)) = false:=by simp; omega
   rw [dif_neg hj]
   simp only [e1,cond_false]) (by
  intro j acc hj hI
  show (if isAt id es[j] = true then acc ++ [farE id es[j]] else acc).length ≤ j + 1
  split
  ·simp; omega
  ·omega)
 have h2:=hl es.length k 0 [] (by omega) hk (by simp)
 rw [List.drop_zero,fold_far] at h2
 exact h2
theorem comp_loopF (orig:List Int) (o n:Nat) (id:Int) (ho:o + n = orig.length) (hl:orig.length ≤ 1000):∀ (m k t w:Nat) (r:List Int),n - t ≤ m → m < k → 1 ≤ t → t ≤ n → r.length = orig.length → r.drop (o + t - 1) = orig.drop (o + t - 1) → r.take w = comp (orig.take (o + t)) → w ≤ o + t - 1 →
  ∃ (w':Nat) (r':List Int),f73_l9x (o,n) id k (w:Int) (t:Int) r = some (((w':Int),()),((),()),(r',(id,()),())) ∧ r'.length = orig.length ∧ w' ≤ orig.length ∧ r'.take w' = comp orig:=by
 intro m
 induction m with
 | zero =>
  intro k t w r h1 h2 h3 h4 h5 h6 h7 h8
  obtain ⟨k,rfl⟩:∃ q,k = q + 1:=⟨k - 1,by omega⟩
  have hlen:((r.drop o).take n).length = n:=by rw [List.length_take,List.length_drop]; omega
  refine ⟨w,r,?_,h5,by omega,?_⟩
  ·unfold f73_l9x
   simp only [hlen]
   rw [dF (by omega)]
   rfl
  ·rw [h7,show o + t = orig.length by omega,List.take_length]
 | succ m ih =>
  intro k t w r h1 h2 h3 h4 h5 h6 h7 h8
  obtain ⟨k,rfl⟩:∃ q,k = q + 1:=⟨k - 1,by omega⟩
  have hlen:((r.drop o).take n).length = n:=by rw [List.length_take,List.length_drop]; omega
  by_cases ht:t < n
  ·obtain ⟨t,rfl⟩:∃ q,t = q + 1:=⟨t - 1,by omega⟩
   have hlt:o + t + 1 < orig.length:=by omega
   have g1:=get_drop h6 h5 (i:=o + t) (by omega) (by omega)
   have g2:=get_drop h6 h5 (i:=o + t + 1) (by omega) hlt
   have w1:IntKind.wrap .i64 (((t + 1:Nat):Int) - (1:Int)) = (t:Int):=by rw [wrap_i64 _ (by omega) (by omega)]; omega
   have a1:at_ tI r ((o:Int) + (t:Int)) = orig[o + t]'(by omega):=by
    rw [show (o:Int) + (t:Int) = ((o + t:Nat):Int) by omega]
    exact (atN tI r (o + t) (by omega)).trans g1
   have a2:at_ tI r ((o:Int) + ((t + 1:Nat):Int)) = orig[o + t + 1]:=by
    rw [show (o:Int) + ((t + 1:Nat):Int) = ((o + t + 1:Nat):Int) by omega]
    exact (atN tI r (o + t + 1) (by omega)).trans g2
   have ct:=comp_take orig (o + t) hlt
   have d1:r.drop (o + (t + 1 + 1) - 1) = orig.drop (o + (t + 1 + 1) - 1):=by
    have:=congrArg (List.drop 1) h6
    rw [List.drop_drop,List.drop_drop] at this
    rw [show o + (t + 1 + 1) - 1 = o + (t + 1) - 1 + 1 by omega]
    exact this
   conv=>enter [1,w',1,r',1,1]; unfold f73_l9x
   simp only [hlen,dT (show ((t + 1:Nat):Int) < (n:Int) by omega),cond_true,w1,a1,a2,inRN,dT (show t + 1 < n by omega),dT (show t < n by omega),wS (t + 1) (by omega)]
   by_cases he:orig[o + t + 1] = orig[o + t]'(by omega)
   ·rw [if_pos he] at ct
    obtain ⟨w',r',q1,q2⟩:=ih k (t + 1 + 1) w r (by omega) (by omega) (by omega) (by omega) h5 d1 (by rw [h7]; exact ct.symm) (by omega)
    refine ⟨w',r',?_,q2⟩
    simp only [he,ne_eq,not_true_eq_false,decide_false,cond_false]
    exact q1
   ·rw [if_neg he] at ct
    have hw:w < r.length:=by omega
    obtain ⟨w',r',q1,q2⟩:=ih k (t + 1 + 1) (w + 1) (r.set w (orig[o + t + 1])) (by omega) (by omega) (by omega) (by omega) (by rw [List.length_set]; exact h5) (by rw [List.drop_set_of_lt (by omega)]; exact d1) (by
     rw [List.take_succ_eq_append_getElem (by rw [List.length_set]; exact hw),List.take_set_of_le (by omega),List.getElem_set_self,h7]
     exact ct.symm) (by omega)
    refine ⟨w',r',?_,q2⟩
    simp only [he,ne_eq,not_false_eq_true,decide_true,cond_true,dT hw,wS w (by omega),Int.toNat_natCast]
    exact q1
  ·refine ⟨w,r,?_,h5,by omega,?_⟩
   ·unfold f73_l9x
    simp only [hlen]
    rw [dF (by omega)]
    rfl
   ·rw [h7,show o + t = orig.length by omega,List.take_length]
theorem comp_firstF (id:Int) (r:List Int) (hl:r.length ≤ 1000):∀ (m k j:Nat),r.length - j ≤ m → m < k → 1 ≤ j → j ≤ r.length → comp (r.take j) = r.take j →
  (f73_l4x r id k (j:Int) = some (.inl ((),((),()),(r,(id,()),()))) ∧ comp r = r) ∨
  ∃ (w:Nat) (r':List Int),f73_l4x r id k (j:Int) = some (.inr ((w,()),((),()),(r',(id,()),()))) ∧ r'.length = r.length ∧ w ≤ r.length ∧ r'.take w = comp r:=by
 intro m
 induction m with
 | zero =>
  intro k j h1 h2 h3 h4 h5
  obtain ⟨k,rfl⟩:∃ q,k = q + 1:=⟨k - 1,by omega⟩
  left
  have hj:j = r.length:=by omega
  subst hj
  rw [List.take_length] at h5
  refine ⟨?_,h5⟩
  unfold f73_l4x
  rw [dF (by omega)]
  rfl
 | succ m ih =>
  intro k j h1 h2 h3 h4 h5
  obtain ⟨k,rfl⟩:∃ q,k = q + 1:=⟨k - 1,by omega⟩
  by_cases hj:j < r.length
  ·obtain ⟨i,rfl⟩:∃ q,j = q + 1:=⟨j - 1,by omega⟩
   have w1:IntKind.wrap .i64 (((i + 1:Nat):Int) - (1:Int)) = (i:Int):=by rw [wrap_i64 _ (by omega) (by omega)]; omega
   have a1:at_ tI r (i:Int) = r[i]'(by omega):=atN tI r i (by omega)
   have a2:at_ tI r ((i + 1:Nat):Int) = r[i + 1]:=atN tI r (i + 1) hj
   have ct:=comp_take r i hj
   unfold f73_l4x
   simp only [dT (show ((i + 1:Nat):Int) < (r.length:Int) by omega),cond_true,w1,a1,a2,inRN,dT hj,dT (show i < r.length by omega),wS (i + 1) (by omega)]
   by_cases he:r[i + 1] = r[i]'(by omega)
   ·right
    rw [if_pos he] at ct
    obtain ⟨w,r',q1,q2,q3,q4⟩:=comp_loopF r (i + 1) (r.length - (i + 1)) id (by omega) hl (r.length - (i + 1) - 1) (r.length - (i + 1) + 1) 1 (i + 1) r (by omega) (by omega) (by omega) (by omega) rfl rfl (by rw [show i + 1 + 1 = i + 2 by omega,ct,h5]) (by omega)
    refine ⟨w,setRange r' w (List.replicate (r'.length - w) (0:Int)),?_,?_,q3,?_⟩
    ·simp only [he,decide_true,cond_true,cutLo r.length (i + 1) (by omega),cutLenLo,Int.toNat_natCast]
     have q1':f73_l9x (i + 1,r.length - (i + 1)) id (r.length - (i + 1) + 1) ((i + 1:Nat):Int) 1 r = _:=q1
     refine bind_step q1' ?_
     show (bif cutOk r'.length (some (w:Int)) none then bif (cutOk (setRange r' (Int.toNat (w:Int)) (List.replicate (cutLen r'.length (some (w:Int)) none) (0:Int))).length none (some (w:Int))) then (some (.inr (((cutLen (setRange r' (Int.toNat (w:Int)) (List.replicate (cutLen r'.length (some (w:Int)) none) (0:Int))).length none (some (w:Int))),()),((),()),((setRange r' (Int.toNat (w:Int)) (List.replicate (cutLen r'.length (some (w:Int)) none) (0:Int))),(id,()),()))):Option (outDen f73_l4x_outs)) else none else none) = _
     simp only [cutLo r'.length w (by omega),cond_true,Int.toNat_natCast,cutLenLo]
     rw [cutHi' _ w (by rw [setRange_len _ _ _ (by rw [List.length_replicate]; omega)]; omega),cutLenHi]
     rfl
    ·rw [setRange_len _ _ _ (by rw [List.length_replicate]; omega),q2]
    ·rw [setRange_take _ _ _ (by omega),q4]
   ·rw [if_neg he] at ct
    have ct':comp (r.take (i + 1 + 1)) = r.take (i + 1 + 1):=by
     rw [show i + 1 + 1 = i + 2 by omega,ct,h5,List.take_succ_eq_append_getElem (show i + 1 < r.length from hj)]
    simp only [he,decide_false,cond_false]
    exact ih k (i + 1 + 1) (by omega) (by omega) (by omega) (by omega) ct'
  ·left
   have hj:j = r.length:=by omega
   subst hj
   rw [List.take_length] at h5
   refine ⟨?_,h5⟩
   unfold f73_l4x
   rw [dF (by omega)]
   rfl
theorem idx_ofF (n k1:Nat) (r:List Int) (id:Int) (hn:n ≤ r.length) (hl:r.length ≤ 1000):∀ (m k j:Nat),n - j ≤ m → m < k → j ≤ n → id ∉ r.take j →
  (f125_l2y n (n:Int) n k1 r id k (j:Int) = some (.inl ((),((n,()),(k1,()),()),(r,(id,()),()))) ∧ id ∉ r.take n) ∨
  ∃ (i:Nat) (h:i < r.length),f125_l2y n (n:Int) n k1 r id k (j:Int) = some (.inr (((i:Int),()),((n,()),(k1,()),()),(r,(id,()),()))) ∧ i < n ∧ id ∉ r.take i ∧ r[i] = id:=by
 intro m
 induction m with
 | zero =>
  intro k j h1 h2 h3 h4
  obtain ⟨k,rfl⟩:∃ q,k = q + 1:=⟨k - 1,by omega⟩
  left
  have hj:j = n:=by omega
  subst hj
  refine ⟨?_,h4⟩
  unfold f125_l2y
  rw [dF (by omega)]
  rfl
 | succ m ih =>
  intro k j h1 h2 h3 h4
  obtain ⟨k,rfl⟩:∃ q,k = q + 1:=⟨k - 1,by omega⟩
  by_cases hj:j < n
  ·have hr:j < r.length:=by omega
   have a1:at_ tI r (0 + (j:Int)) = r[j]:=by rw [Int.zero_add]; exact atN tI r j hr
   unfold f125_l2y
   simp only [dT (show (j:Int) < (n:Int) by omega),cond_true,inRN,dT hj,a1,wS j (by omega)]
   by_cases he:r[j] = id
   ·right
    refine ⟨j,hr,?_,hj,h4,he⟩
    rw [dT he,cond_true]
   ·rw [dF he,cond_false]
    refine ih k (j + 1) (by omega) (by omega) (by omega) ?_
    rw [List.take_succ_eq_append_getElem hr,List.mem_append]
    rintro (h | h)
    ·exact h4 h
    ·exact he (List.mem_singleton.1 h).symm
  ·left
   have hj:j = n:=by omega
   subst hj
   refine ⟨?_,h4⟩
   unfold f125_l2y
   rw [dF (by omega)]
   rfl
theorem del_loopF (n k1:Nat) (orig:List Int) (id:Int) (hn:n ≤ orig.length) (hl:orig.length ≤ 1000):∀ (m k t w:Nat) (r:List Int),n - t ≤ m → m < k → t ≤ n → r.length = orig.length → r.drop t = orig.drop t → r.take w = (orig.take t).filter (fun x=>!decide (x = id)) → w ≤ t →
  ∃ (w':Nat) (r':List Int),f72_l5x n k1 id k (w:Int) (t:Int) r = some ((n,(w':Int),()),((k1,()),()),(r',())) ∧ r'.length = orig.length ∧ w' ≤ n ∧ r'.take w' = (orig.take n).filter (fun x=>!decide (x = id)):=by
 intro m
 induction m with
 | zero =>
  intro k t w r h1 h2 h3 h4 h5 h6 h7
  obtain ⟨k,rfl⟩:∃ q,k = q + 1:=⟨k - 1,by omega⟩
  have ht:t = n:=by omega
  subst ht
  have hlen:((r.drop 0).take t).length = t:=by rw [List.length_take,List.length_drop]; omega
  refine ⟨w,r,?_,h4,h7,h6⟩
  unfold f72_l5x
  simp only [hlen]
  rw [dF (by omega)]
  rfl
 | succ m ih =>
  intro k t w r h1 h2 h3 h4 h5 h6 h7
  obtain ⟨k,rfl⟩:∃ q,k = q + 1:=⟨k - 1,by omega⟩
  have hlen:((r.drop 0).take n).length = n:=by rw [List.length_take,List.length_drop]; omega
  by_cases ht:t < n
  ·have hto:t < orig.length:=by omega
   have g:=get_drop h5 h4 (Nat.le_refl t) hto
   have a1:at_ tI r (t:Int) = orig[t]:=(atN tI r t (by omega)).trans g
   have d1:r.drop (t + 1) = orig.drop (t + 1):=by
    have:=congrArg (List.drop 1) h5
    rwa [List.drop_drop,List.drop_drop] at this
   have ft:(orig.take (t + 1)).filter (fun x=>!decide (x = id)) = (orig.take t).filter (fun x=>!decide (x = id)) ++ (if orig[t] = id then [] else [orig[t]]):=by
    rw [List.take_succ_eq_append_getElem hto,List.filter_append]
    congr 1
    by_cases he:orig[t] = id <;> simp [he]
   conv=>enter [1,w',1,r',1,1]; unfold f72_l5x
   simp only [hlen,dT (show (t:Int) < (n:Int) by omega),cond_true,inRN,dT ht,a1,wS t (by omega),wS w (by omega),dT (show w < n by omega),Int.zero_add,Int.toNat_natCast]
   by_cases he:orig[t] = id
   ·rw [if_pos he,List.append_nil] at ft
    simp only [he,decide_true,Bool.not_true,cond_false]
    exact ih k (t + 1) w r (by omega) (by omega) (by omega) h4 d1 (by rw [h6,ft]) (by omega)
   ·rw [if_neg he] at ft
    simp only [dF he,Bool.not_false,cond_true]
    refine ih k (t + 1) (w + 1) (r.set w orig[t]) (by omega) (by omega) (by omega) (by rw [List.length_set]; exact h4) (by rw [List.drop_set_of_lt (by omega)]; exact d1) ?_ (by omega)
    rw [List.take_succ_eq_append_getElem (by rw [List.length_set]; omega),List.take_set_of_le (by omega),List.getElem_set_self,h6,ft]
  ·have ht:t = n:=by omega
   subst ht
   refine ⟨w,r,?_,h4,h7,h6⟩
   unfold f72_l5x
   simp only [hlen]
   rw [dF (by omega)]
   rfl
def delTF (n k1:Nat) (r:List Int) (id:Int):Option (List Int) :=
 (f125_l2y n (n:Int) n k1 r id (((n:Int) - (0:Int)).toNat + 1) (0:Int)).bind fun o10 =>
  Sum.elim (fun o11 =>
   let u13:Nat:=o11.2.1.1.1
   let u15:(List Int):=o11.2.2.1
   some ((u15.drop 0).take u13)) (fun o12 =>
   let u17:Int:=o12.1.1
   let u18:Nat:=o12.2.1.1.1
   let u19:Nat:=o12.2.1.2.1.1
   let u20:(List Int):=o12.2.2.1
   let u21:Int:=o12.2.2.2.1.1
   bif (decide (u17 = (-1:Int))) then
    some ((u20.drop 0).take u18)
   else
    (f72_l5x u18 u19 u21 (((((u20.drop 0).take u18).length:Int) - (IntKind.wrap .i64 (u17 + (1:Int)))).toNat + 1) u17 (IntKind.wrap .i64 (u17 + (1:Int))) u20).bind fun o24 =>
    let u25:Nat:=o24.1.1
    let u26:Int:=o24.1.2.1
    let u28:(List Int):=o24.2.2.1
    bif (cutOk u25 (some u26) none) then bif (cutOk u25 none (some u26)) then some (((setRange u28 (0 + (Int.toNat u26)) (List.replicate (cutLen u25 (some u26) none) (0:Int))).drop 0).take (cutLen u25 none (some u26))) else none else none) o10
theorem delT_eqF (n k1:Nat) (r:List Int) (id:Int) (hn:n ≤ r.length) (hl:r.length ≤ 1000):delTF n k1 r id = some ((r.take n).filter (fun x=>!decide (x = id))):=by
 unfold delTF
 rcases idx_ofF n k1 r id hn hl n (((n:Int) - (0:Int)).toNat + 1) 0 (by omega) (by omega) (by omega) (by simp) with ⟨h1,h2⟩ | ⟨i,hi,h1,h2,h3,h4⟩
 ·have h1':f125_l2y n (n:Int) n k1 r id (((n:Int) - (0:Int)).toNat + 1) (0:Int) = _:=h1
  refine bind_step h1' ?_
  show some ((r.drop 0).take n) = _
  rw [List.drop_zero,notIn_filter id _ h2]
 ·have h1':f125_l2y n (n:Int) n k1 r id (((n:Int) - (0:Int)).toNat + 1) (0:Int) = _:=h1
  refine bind_step h1' ?_
  have hlen:((r.drop 0).take n).length = n:=by rw [List.length_take,List.length_drop]; omega
  have f0:(r.take (i + 1)).filter (fun x=>!decide (x = id)) = r.take i:=by
   rw [List.take_succ_eq_append_getElem hi,List.filter_append,notIn_filter id _ h3,h4]
   simp
  obtain ⟨w',r',q1,q2,q3,q4⟩:=del_loopF n k1 r id hn hl (n - (i + 1)) (((n:Int) - ((i + 1:Nat):Int)).toNat + 1) (i + 1) i r (by omega) (by omega) (by omega) rfl rfl (by rw [f0]) (by omega)
  show (bif (decide ((i:Int) = (-1:Int))) then some ((r.drop 0).take n) else
    (f72_l5x n k1 id (((((r.drop 0).take n).length:Int) - (IntKind.wrap .i64 ((i:Int) + (1:Int)))).toNat + 1) (i:Int) (IntKind.wrap .i64 ((i:Int) + (1:Int))) r).bind fun o24 =>
    bif (cutOk o24.1.1 (some o24.1.2.1) none) then bif (cutOk o24.1.1 none (some o24.1.2.1)) then some ((((setRange o24.2.2.1 (0 + (Int.toNat o24.1.2.1)) (List.replicate (cutLen o24.1.1 (some o24.1.2.1) none) (0:Int))).drop 0).take (cutLen o24.1.1 none (some o24.1.2.1))) ) else none else none) = _
  rw [dF (by omega),cond_false,hlen,wS i (by omega)]
  refine bind_step q1 ?_
  show (bif (cutOk n (some (w':Int)) none) then bif (cutOk n none (some (w':Int))) then some ((((setRange r' (0 + (Int.toNat (w':Int))) (List.replicate (cutLen n (some (w':Int)) none) (0:Int))).drop 0).take (cutLen n none (some (w':Int)))) ) else none else none) = _
  simp only [cutLo n w' q3,cutHi' n w' q3,cond_true,cutLenLo,cutLenHi,Int.toNat_natCast,Nat.zero_add,List.drop_zero]
  rw [setRange_take _ _ _ (by omega),q4]
theorem f31_eq (id:Int) (es:List Ed) (h:es.length ≤ 1000):f31 id es = some (nb id es):=by
 have hlen:(((atE es id).map (farE id)).mergeSort fun x y=>decide (x ≤ y)).length ≤ 1000:=by
  rw [List.length_mergeSort,List.length_map]
  exact Nat.le_trans (atE_len es id) h
 have hs:sortInts ((atE es id).map (farE id)) = some (((atE es id).map (farE id)).mergeSort fun x y=>decide (x ≤ y)):=by
  unfold sortInts
  rw [dT (by have:=atE_len es id; rw [List.length_map]; omega),cond_true]
 unfold f31
 refine bind_step (ends_loopF es id h _ (by omega)) ?_
 refine bind_step hs ?_
 show _ = some ((comp (((atE es id).map (farE id)).mergeSort fun x y=>decide (x ≤ y))).filter (fun x=>!decide (x = id)))
 generalize (((atE es id).map (farE id)).mergeSort fun x y=>decide (x ≤ y)) = y at hlen ⊢
 by_cases hy:y.length < 2
 ·rw [dT (by omega),cond_true]
  have:=delT_eqF y.length y.length y id (Nat.le_refl _) hlen
  rw [List.take_length] at this
  rw [comp_short y hy]
  exact this
 ·rw [dF (by omega),cond_false]
  rcases comp_firstF id y hlen (y.length - 1) (((y.length:Int) - (1:Int)).toNat + 1) 1 (by omega) (by omega) (by omega) (by omega) (comp_short _ (by rw [List.length_take]; omega)) with ⟨h1,h2⟩ | ⟨w,r',h1,h2,h3,h4⟩
  ·refine bind_step h1 ?_
   have:=delT_eqF y.length y.length y id (Nat.le_refl _) hlen
   rw [List.take_length] at this
   rw [h2]
   exact this
  ·refine bind_step h1 ?_
   have:=delT_eqF w r'.length r' id (by omega) (by omega)
   rw [h4] at this
   have hw:((r'.drop 0).take w).length = w:=by rw [List.length_take,List.length_drop]; omega
   show (f125_l2y w (((r'.drop 0).take w).length:Int) w r'.length r' id (((((r'.drop 0).take w).length:Int) - (0:Int)).toNat + 1) (0:Int)).bind _ = _
   rw [hw]
   exact this
end Go.V.G
namespace Go.V.G
open Go.Proofs
section
variable {R:Type}
theorem find_loop2 (T:Ty) (ok:T.den → Bool) (F:Nat → Int → Option R) (yes:R) (no:Nat → R) (l:List T.den)
  (hF:∀ k (j:Nat),F (k + 1) (j:Int) = if h:j < l.length then (if ok l[j] = true then F k ((j + 1:Nat):Int) else some (no j)) else some yes) :
  ∀ (m k j:Nat),l.length - j ≤ m → m < k → ((l.drop j).all ok = true ∧ F k (j:Int) = some yes) ∨ ((l.drop j).all ok = false ∧ ∃ (i:Nat) (h:i < l.length),j ≤ i ∧ ok l[i] = false ∧ F k (j:Int) = some (no i)):=by
 intro m
 induction m with
 | zero =>
  intro k j h1 h2
  obtain ⟨k,rfl⟩:∃ q,k = q + 1:=⟨k - 1,by omega⟩
  rw [hF k j,dif_neg (by omega),List.drop_of_length_le (by omega)]
  exact .inl ⟨rfl,rfl⟩
 | succ m ih =>
  intro k j h1 h2
  obtain ⟨k,rfl⟩:∃ q,k = q + 1:=⟨k - 1,by omega⟩
  rw [hF k j]
  by_cases h:j < l.length
  ·rw [dif_pos h,List.drop_eq_getElem_cons h,List.all_cons]
   cases hok:ok l[j] with
   | true =>
    simp only [if_true,Bool.true_and]
    rcases ih k (j + 1) (by omega) (by omega) with h3 | ⟨h3,i,h4,h5,h6⟩
    ·exact .inl h3
    ·exact .inr ⟨h3,i,h4,by omega,h6⟩
   | false =>
    simp only [Bool.false_eq_true,if_false,Bool.false_and]
    exact .inr ⟨trivial,j,h,Nat.le_refl _,hok,rfl⟩
  ·rw [dif_neg h,List.drop_of_length_le (by omega)]
   exact .inl ⟨rfl,rfl⟩
end
theorem hasV_all (vs:List Vx) (id:Int):hasV vs id = !(vs.all fun v=>!decide (v.1 = id)):=by
 unfold hasV
 rw [List.not_all_eq_any_not]
 simp
theorem f53_eq (vs:List Vx) (es:List Ed) (ds:List Int) (id:Int) (h1:vs.length ≤ 1099511627776) (h2:es.length ≤ 1099511627776) (h3:ds.length ≤ 1099511627776) :
  (valid (vs,es,ds,()) = true ∧ ∃ v ∈ vs,v.1 = id ∧ f53 (vs,es,ds,()) id = some (v,true,())) ∨
  ((valid (vs,es,ds,()) && hasV vs id) = false ∧ f53 (vs,es,ds,()) id = some ((0,0,()),false,())):=by
 have key:=find_loop2 tV (fun v:Vx=>!decide (v.1 = id)) (fun k j=>f115_l2x vs (vs.length:Int) false id vs es ds 0 0 k j) (.inl ((),((false,()),()),((vs,es,ds,()),(0,0,()),()))) (fun i=>.inr (((i:Int),()),((false,()),()),((vs,es,ds,()),(0,0,()),()))) vs (by
  intro k j
  show f115_l2x vs (vs.length:Int) false id vs es ds 0 0 (k + 1) (j:Int) = _
  conv=>lhs; unfold f115_l2x
  by_cases hj:j < vs.length
  ·have hget:at_ tV vs (j:Int) = vs[j]:=atN tV vs j hj
   rw [dT (by omega),dif_pos hj]
   simp only [cond_true,inRN,dT hj,hget,wS j (by omega)]
   by_cases c:vs[j].1 = id
   ·rw [dT c]; rfl
   ·rw [dF c]; rfl
  ·rw [dF (by omega),dif_neg hj]; rfl) vs.length (((vs.length:Int) - (0:Int)).toNat + 1) 0 (by omega) (by omega)
 rw [List.drop_zero] at key
 unfold f53
 rcases key with ⟨k1,k2⟩ | ⟨k0,i,hi,_,k1,k3⟩
 ·refine .inr ⟨?_,bind_step k2 rfl⟩
  rw [hasV_all,k1]
  simp
 ·have hv:=f46_eq (vs,es,ds,()) h1 h2 h3
  have hget:at_ tV vs (i:Int) = vs[i]:=atN tV vs i hi
  have hid:vs[i].1 = id:=by simpa using k1
  cases hval:valid (vs,es,ds,()) with
  | true =>
   rw [hval] at hv
   refine .inl ⟨rfl,vs[i],List.getElem_mem hi,hid,bind_step k3 ?_⟩
   refine bind_step hv ?_
   show (bif (inR (i:Int) vs.length) then some ((at_ tV vs (i:Int)),true,()) else none) = _
   rw [inRN,dT hi,hget]
   rfl
  | false =>
   rw [hval] at hv
   refine .inr ⟨rfl,bind_step k3 ?_⟩
   exact bind_step hv rfl
theorem f55_eq (vs:List Vx) (es:List Ed) (ds:List Int) (id:Int) (h1:vs.length ≤ 1099511627776) :
  (hasV vs id = false ∧ f55 (vs,es,ds,()) id = some (-1,())) ∨ ∃ (i:Nat) (h:i < vs.length),vs[i].1 = id ∧ f55 (vs,es,ds,()) id = some ((i:Int),()):=by
 have key:=find_loop2 tV (fun v:Vx=>!decide (v.1 = id)) (fun k j=>f55_l2 id vs es ds k j) (.inl ((),(),())) (fun i=>.inr (((i:Int),()),(),())) vs (by
  intro k j
  show f55_l2 id vs es ds (k + 1) (j:Int) = _
  conv=>lhs; unfold f55_l2
  by_cases hj:j < vs.length
  ·have hget:at_ tV vs (j:Int) = vs[j]:=atN tV vs j hj
   rw [dT (by omega),dif_pos hj]
   simp only [cond_true,inRN,dT hj,hget,wS j (by omega)]
   by_cases c:vs[j].1 = id
   ·rw [dT c]; rfl
   ·rw [dF c]; rfl
  ·rw [dF (by omega),dif_neg hj]; rfl) vs.length (((vs.length:Int) - (0:Int)).toNat + 1) 0 (by omega) (by omega)
 rw [List.drop_zero] at key
 unfold f55
 rcases key with ⟨k1,k2⟩ | ⟨k0,i,hi,_,k1,k3⟩
 ·refine .inl ⟨?_,bind_step k2 rfl⟩
  rw [hasV_all,k1]
  simp
 ·exact .inr ⟨i,hi,by simpa using k1,bind_step k3 rfl⟩
theorem vid_inj {vs:List Vx} (h:asc kV vs = true) {a b:Vx} (ha:a ∈ vs) (hb:b ∈ vs) (hab:a.1 = b.1):a = b:=by
 have hp:=(asc_pairwise kV).1 h
 clear h
 induction vs with
 | nil=>simp at ha
 | cons x l ih =>
  obtain ⟨h1,h2⟩:=List.pairwise_cons.1 hp
  rcases List.mem_cons.1 ha with ha1 | ha1 <;> rcases List.mem_cons.1 hb with hb1 | hb1
  ·rw [ha1,hb1]
  ·have:x.1 < b.1:=h1 b hb1
   rw [ha1] at hab
   omega
  ·have:x.1 < a.1:=h1 a ha1
   rw [hb1] at hab
   omega
  ·exact ih ha1 hb1 h2
theorem hasV_of {vs:List Vx} {v:Vx} (h:v ∈ vs):hasV vs v.1 = true:=List.any_eq_true.2 ⟨v,h,by simp⟩
theorem page_p (vs:List Vx) (es:List Ed) (ds:List Int) (id:Int) (h1:vs.length ≤ 1099511627776) (h2:es.length ≤ 1099511627776) (h3:ds.length ≤ 1099511627776) :
  (valid (vs,es,ds,()) = true ∧ ∃ v ∈ vs,v.1 = id ∧ f19 (vs,es,ds,()) id = some (encs (pageN v (atE es id)),0,())) ∨
  ((valid (vs,es,ds,()) && hasV vs id) = false ∧ f19 (vs,es,ds,()) id = some (⟨#[]⟩,60,())):=by
 unfold f19
 rcases f53_eq vs es ds id h1 h2 h3 with ⟨a1,v,hi,a2,a4⟩ | ⟨a1,a2⟩
 ·have h:=ok_of vs es ds a1
  have n2:=h.ne
  refine .inl ⟨a1,v,hi,a2,bind_step a4 ?_⟩
  have:=f54_eq (vs,es,ds,()) v (show es.length ≤ 1000 by omega) h.sE (h.sV _ hi)
  refine bind_step this ?_
  show some (encs (pageN v (atE es v.1)),(0:Int),()) = _
  rw [a2]
 ·exact .inr ⟨a1,bind_step a2 rfl⟩
theorem page_same (vs:List Vx) (es:List Ed) (ds:List Int) (id:Int) (h1:vs.length ≤ 1099511627776) (h2:es.length ≤ 1099511627776) (h3:ds.length ≤ 1099511627776):f20 (vs,es,ds,()) id = f19 (vs,es,ds,()) id:=by
 have hv:=f48_eq (vs,es,ds,()) h1 h2 h3
 rcases page_p vs es ds id h1 h2 h3 with ⟨a1,v,hi,a2,a4⟩ | ⟨a1,a2⟩
 ·have h:=ok_of vs es ds a1
  have n2:=h.ne
  rw [a4]
  rw [a1] at hv
  unfold f20
  refine bind_step hv ?_
  rcases f55_eq vs es ds id h1 with ⟨b1,b2⟩ | ⟨i,hil,b1,b2⟩
  ·rw [← a2,hasV_of hi] at b1
   cases b1
  ·refine bind_step b2 ?_
   have hget:at_ tV vs (i:Int) = vs[i]:=atN tV vs i hil
   have hvi:vs[i] = v:=vid_inj h.av (List.getElem_mem hil) hi (by rw [b1,a2])
   show (bif (inR (i:Int) vs.length) then (f50 (vs,es,ds,()) id).bind (fun y3=>(f49 (at_ tV vs (i:Int)) y3.1).bind fun y4=>some (y4.1,(0:Int),())) else none) = _
   rw [inRN,dT hil,cond_true,hget,hvi]
   refine bind_step (f50_eq (vs,es,ds,()) (show es.length ≤ 1000000 by omega) id) ?_
   have hlen:=atE_len es id
   refine bind_step (f49_eq v (atE es id) (by omega) (fun e he=>h.sE e (List.mem_filter.1 he).1) (h.sV _ hi)) ?_
   rfl
 ·rw [a2]
  unfold f20
  refine bind_step hv ?_
  rcases f55_eq vs es ds id h1 with ⟨b1,b2⟩ | ⟨i,hil,b1,b2⟩
  ·refine bind_step b2 ?_
   cases valid (vs,es,ds,()) <;> rfl
  ·refine bind_step b2 ?_
   have:valid (vs,es,ds,()) = false:=by
    rw [← b1,hasV_of (List.getElem_mem hil),Bool.and_true] at a1
    exact a1
   rw [this]
   rfl
end Go.V.G
namespace Go.V.G
open Go.Proofs
def labs:Int → List Nm → Bool
 | _,[]=>true
 | p,x :: l=>decide (p < x.1) && decide (x.1 < 24) && decide (x.2.1.length ≤ 64) && labs x.1 l
theorem labs_loop (l:List Nm) (hl:l.length ≤ 1099511627776):∀ (m k j:Nat) (p:Int),l.length - j ≤ m → m < k →
  f77_l3 l (l.length:Int) k p (j:Int) = some (bif labs p (l.drop j) then .inl ((),(),()) else .inr ((false,()),(),())):=by
 intro m
 induction m with
 | zero =>
  intro k j p h1 h2
  obtain ⟨k,rfl⟩:∃ q,k = q + 1:=⟨k - 1,by omega⟩
  unfold f77_l3
  rw [dF (by omega),List.drop_of_length_le (by omega)]
  rfl
 | succ m ih =>
  intro k j p h1 h2
  obtain ⟨k,rfl⟩:∃ q,k = q + 1:=⟨k - 1,by omega⟩
  by_cases hj:j < l.length
  ·have hget:at_ tM l (j:Int) = l[j]:=atN tM l j hj
   unfold f77_l3
   rw [dT (by omega),List.drop_eq_getElem_cons hj]
   simp only [cond_true,inRN,dT hj,hget,wS j (by omega),labs]
   by_cases c1:p < l[j].1
   ·by_cases c2:l[j].1 < 24
    ·by_cases c3:l[j].2.1.length ≤ 64
     ·rw [dF (by omega),dF (by omega),dF (by omega),dT c1,dT c2,dT c3]
      exact ih k (j + 1) l[j].1 (by omega) (by omega)
     ·rw [dF (by omega),dF (by omega),dT (by omega),dT c1,dT c2,dF c3]
      rfl
    ·rw [dF (by omega),dT (by omega),dT c1,dF c2]
     rfl
   ·rw [dT (by omega),dF c1]
    rfl
  ·unfold f77_l3
   rw [dF (by omega),List.drop_of_length_le (by omega)]
   rfl
theorem f77_eq (l:List Nm) (hl:l.length ≤ 1099511627776):f77 l = some (labs (-1) l,()):=by
 unfold f77
 have h:=labs_loop l hl l.length (((l.length:Int) - (0:Int)).toNat + 1) 0 (-1) (by omega) (by omega)
 rw [List.drop_zero] at h
 cases hb:labs (-1) l with
 | true=>rw [hb] at h; exact bind_step h rfl
 | false=>rw [hb] at h; exact bind_step h rfl
theorem f80_eq (l:List Int) (x:Int) (hl:l.length ≤ 1099511627776):f80 l x = some (decide (x ∈ l),()):=by
 have key:=find_loop2 tI (fun v:Int=>!decide (x = v)) (fun k j=>f126_l2 l x (l.length:Int) k j) (.inl ((),(),())) (fun i=>.inr (((i:Int),()),(),())) l (by
  intro k j
  show f126_l2 l x (l.length:Int) (k + 1) (j:Int) = _
  conv=>lhs; unfold f126_l2
  by_cases hj:j < l.length
  ·have hget:at_ tI l (j:Int) = l[j]:=atN tI l j hj
   rw [dT (by omega),dif_pos hj]
   simp only [cond_true,inRN,dT hj,hget,wS j (by omega)]
   by_cases c:x = l[j]
   ·rw [dT c]; rfl
   ·rw [dF c]; rfl
  ·rw [dF (by omega),dif_neg hj]; rfl) l.length (((l.length:Int) - (0:Int)).toNat + 1) 0 (by omega) (by omega)
 rw [List.drop_zero] at key
 unfold f80 f126
 rcases key with ⟨k1,k2⟩ | ⟨k0,i,hi,_,k1,k3⟩
 ·have:x ∉ l:=fun hx=>by
   have:=List.all_eq_true.1 k1 x hx
   simp at this
  rw [dF this]
  exact bind_step (bind_step k2 rfl) rfl
 ·have:x ∈ l:=by
   have:x = l[i]:=by simpa using k1
   rw [this]
   exact List.getElem_mem hi
  rw [dT this]
  refine bind_step (bind_step k3 rfl) ?_
  show some (decide ((i:Int) ≥ 0),()) = _
  rw [dT (by omega)]
end Go.V.G
namespace Go.V.G
open Go.Proofs
def kept (id:Int) (near:List Int) (l:List Nm):List Nm:=l.filter fun x=>decide (x.1 = id) || decide (x.1 ∈ near)
theorem fold_kept (id:Int) (near:List Int):∀ (l acc:List Nm),l.foldl (fun acc x=>if (decide (x.1 = id) || decide (x.1 ∈ near)) = true then acc ++ [x] else acc) acc = acc ++ kept id near l
 | [],acc=>by simp [kept]
 | e :: l,acc=>by
  have hf:kept id near (e :: l) = if (decide (e.1 = id) || decide (e.1 ∈ near)) = true then e :: kept id near l else kept id near l:=by
   unfold kept
   rw [List.filter_cons]
  rw [List.foldl_cons,fold_kept id near l,hf]
  split <;> simp
theorem view_loop (l:List Nm) (hl:l.length ≤ 1000) (hx:∀ x ∈ l,x.2.1.length ≤ 1000) (z0 z1 v0 v1:Int) (ds:List Int) (es:List Ed) (id:Int) (near:List Int) (hn:near.length ≤ 1000) (k:Nat) (hk:l.length < k) :
  f34_l7 l (l.length:Int) z0 z1 v0 v1 ds es (near ++ [id]) k 0 [] = some ((),(),((z0,z1,()),(v0,v1,ds,es,()),kept id near l,())):=by
 have hlp:=fold_loop tM (fun (acc:List Nm) (x:Nm)=>if (decide (x.1 = id) || decide (x.1 ∈ near)) = true then acc ++ [x] else acc) (fun k j acc=>f34_l7 l (l.length:Int) z0 z1 v0 v1 ds es (near ++ [id]) k j acc) (fun r=>((),(),((z0,z1,()),(v0,v1,ds,es,()),r,()))) (fun j acc=>acc.length ≤ j ∧ j ≤ 1000) l (by
  intro k j acc hI
  show f34_l7 l (l.length:Int) z0 z1 v0 v1 ds es (near ++ [id]) (k + 1) (j:Int) acc = _
  conv=>lhs; unfold f34_l7
  by_cases hj:j < l.length
  ·have hget:at_ tM l (j:Int) = l[j]:=atN tM l j hj
   rw [dif_pos hj,dT (by omega)]
   simp only [cond_true,inRN,dT hj,hget,wS j (by omega)]
   have h80:=f80_eq (near ++ [id]) l[j].1 (by simp; omega)
   refine bind_step h80 ?_
   have hm:decide (l[j].1 ∈ near ++ [id]) = (decide (l[j].1 = id) || decide (l[j].1 ∈ near)):=by
    rw [Bool.eq_iff_iff]
    simp only [decide_eq_true_eq,Bool.or_eq_true,List.mem_append,List.mem_singleton]
    exact Or.comm
   show (bif decide (l[j].1 ∈ near ++ [id]) then _ else _) = _
   rw [hm]
   cases hb:(decide (l[j].1 = id) || decide (l[j].1 ∈ near)) with
   | false=>rfl
   | true =>
    have h78:f78 l[j].2.1 = some (l[j].2.1,()):=by
     unfold f78
     have:=hx _ (List.getElem_mem hj)
     rw [dT (by unfold appLim; omega)]
     rfl
    rw [cond_true]
    refine bind_step h78 ?_
    show (bif (decide (acc.length + ([(l[j].1,l[j].2.1,())]:List Nm).length ≤ appLim)) then f34_l7 l (l.length:Int) z0 z1 v0 v1 ds es (near ++ [id]) k ((j + 1:Nat):Int) (acc ++ [(l[j].1,l[j].2.1,())]) else none) = _
    rw [appOk _ _ (by simp; omega)]
    rfl
  ·rw [dif_neg hj,dF (by omega)]
   rfl) (by
  intro j acc hj hI
  show (if (decide (l[j].1 = id) || decide (l[j].1 ∈ near)) = true then acc ++ [l[j]] else acc).length ≤ j + 1 ∧ j + 1 ≤ 1000
  split
  ·simp; omega
  ·omega)
 have h2:=hlp l.length k 0 [] (by omega) hk ⟨by simp,by omega⟩
 rw [List.drop_zero,fold_kept] at h2
 exact h2
theorem view_p (vs:List Vx) (es:List Ed) (ds:List Int) (l:List Nm) (id:Int) (h1:vs.length ≤ 1099511627776) (h2:es.length ≤ 1099511627776) (h3:ds.length ≤ 1099511627776) (hl:l.length ≤ 1000) (hx:∀ x ∈ l,x.2.1.length ≤ 1000) :
  (valid (vs,es,ds,()) = true ∧ labs (-1) l = true ∧ ∃ v ∈ vs,v.1 = id ∧ f34 (vs,es,ds,()) l id = some ((v,ds,atE es id,kept id (nb id (atE es id)) l,()),0,())) ∨
  ((valid (vs,es,ds,()) && hasV vs id && labs (-1) l) = false ∧ f34 (vs,es,ds,()) l id = some (((0,0,()),[],[],[],()),60,())):=by
 have h77:=f77_eq l (by omega)
 unfold f34
 rcases f53_eq vs es ds id h1 h2 h3 with ⟨a1,v,hi,a2,a4⟩ | ⟨a1,a2⟩
 ·have h:=ok_of vs es ds a1
  have n2:=h.ne
  have n3:=h.dl
  cases hb:labs (-1) l with
  | false =>
   rw [hb] at h77
   exact .inr ⟨by simp,bind_step a4 (bind_step h77 rfl)⟩
  | true =>
   rw [hb] at h77
   have hlen:=atE_len es id
   have hnb:=nb_len id (atE es id)
   refine .inl ⟨a1,rfl,v,hi,a2,bind_step a4 (bind_step h77 ?_)⟩
   have h78:f78 ds = some (ds,()):=by
    unfold f78
    rw [dT (by unfold appLim; omega)]
    rfl
   refine bind_step h78 ?_
   refine bind_step (f79_eq (vs,es,ds,()) (show es.length ≤ 1000000 by omega) id) ?_
   refine bind_step (f31_eq id (atE es id) (by omega)) ?_
   rw [appOk _ _ (by simp; omega),cond_true]
   refine bind_step (view_loop l hl hx 0 0 v.1 v.2.1 ds (atE es id) id (nb id (atE es id)) (by omega) _ (by omega)) ?_
   rfl
 ·exact .inr ⟨by rw [a1]; rfl,bind_step a2 rfl⟩
end Go.V.G
namespace Go.V.G
open Go.Proofs
theorem same_all {R α:Type} [DecidableEq α] (a b:List α) (n:Nat) (ha:a.length = n) (hb:b.length = n) (F:Nat → Int → Option R) (yes no:R)
  (hF:∀ k (j:Nat),F (k + 1) (j:Int) = if h:j < n then (if a[j]'(by omega) = b[j]'(by omega) then F k ((j + 1:Nat):Int) else some no) else some yes) (k:Nat) (hk:n < k) :
  F k 0 = some (if a = b then yes else no):=by
 rcases idx_loop n (fun j=>if h:j < n then decide (a[j]'(by omega) = b[j]'(by omega)) else true) F yes no (by
  intro k j
  rw [hF k j]
  by_cases h:j < n
  ·rw [dif_pos h,if_pos h]
   simp only [h,dite_true,decide_eq_true_eq]
  ·rw [dif_neg h,if_neg h]) n k 0 (by omega) hk with ⟨h1,h2⟩ | ⟨⟨i,_,h1,h2⟩,h3⟩
 ·rw [if_pos]
  ·exact h2
  ·refine List.ext_getElem (by omega) fun i h3 h4=>?_
   have:=h1 i (Nat.zero_le _) (by omega)
   simpa [show i < n by omega] using this
 ·rw [if_neg]
  ·exact h3
  ·intro e
   subst e
   simp [h1] at h2
instance decB:DecidableEq (Bool × Int × Int × Unit):=inferInstance
instance decB2:DecidableEq (Int × Int × Bool × Int × Int × Unit):=inferInstance
instance decEd:DecidableEq Ed:=@instDecidableEqProd Int (Int × Int × Bool × Int × Int × Unit) _ decB2
theorem ed_eq (x y:Ed):(decide (x.1 = y.1) && (decide (x.2.1 = y.2.1) && (decide (x.2.2.1 = y.2.2.1) && (decide (x.2.2.2.1 = y.2.2.2.1) && (decide (x.2.2.2.2.1 = y.2.2.2.2.1) && (decide (x.2.2.2.2.2.1 = y.2.2.2.2.2.1) && true)))))) = decide (x = y):=by
 obtain ⟨a,b,c,d,e,f,u⟩:=x
 obtain ⟨a',b',c',d',e',f',u'⟩:=y
 rw [Bool.eq_iff_iff]
 simp [Prod.ext_iff]
theorem vx_eq (x y:Vx):(decide (x.1 = y.1) && (decide (x.2.1 = y.2.1) && true)) = decide (x = y):=by
 obtain ⟨a,b,u⟩:=x
 obtain ⟨a',b',u'⟩:=y
 rw [Bool.eq_iff_iff]
 simp [Prod.ext_iff]
theorem f30_eq (a b:List Int) (ha:a.length ≤ 1099511627776):f30 a b = some (decide (a = b),()):=by
 unfold f30
 by_cases h:a.length = b.length
 ·rw [dF (by simp; omega),cond_false]
  have hs:=same_all a b a.length rfl h.symm (fun k j=>f30_l4 a b k j) (.inl ((),(),())) (.inr ((false,()),(),())) (by
   intro k j
   show f30_l4 a b (k + 1) (j:Int) = _
   conv=>lhs; unfold f30_l4
   by_cases hj:j < a.length
   ·have g1:at_ tI a (j:Int) = a[j]:=atN tI a j hj
    have g2:at_ tI b (j:Int) = b[j]'(by omega):=atN tI b j (by omega)
    rw [dif_pos hj,dT (by omega)]
    simp only [cond_true,inRN,dT hj,dT (show j < b.length by omega),g1,g2,wS j (by omega)]
    by_cases he:a[j] = b[j]'(by omega)
    ·rw [dF (by simp [he]),if_pos he]; rfl
    ·rw [dT he,if_neg he]; rfl
   ·rw [dif_neg hj,dF (by omega)]; rfl) (((a.length:Int) - (0:Int)).toNat + 1) (by omega)
  by_cases e:a = b
  ·rw [dT e]; exact bind_step (hs.trans (congrArg some (if_pos e))) rfl
  ·rw [dF e]; exact bind_step (hs.trans (congrArg some (if_neg e))) rfl
 ·rw [dT (by simp; omega),cond_true,dF (fun e=>h (by rw [e]))]
theorem edges_eq29 (a b:List Ed) (ha:a.length ≤ 1099511627776):f29 a b = some (decide (a = b),()):=by
 unfold f29
 by_cases h:a.length = b.length
 ·rw [dF (by simp; omega),cond_false]
  have hs:=same_all a b a.length rfl h.symm (fun k j=>f29_l4 a b k j) (.inl ((),(),())) (.inr ((false,()),(),())) (by
   intro k j
   show f29_l4 a b (k + 1) (j:Int) = _
   conv=>lhs; unfold f29_l4
   by_cases hj:j < a.length
   ·have g1:at_ tE a (j:Int) = a[j]:=atN tE a j hj
    have g2:at_ tE b (j:Int) = b[j]'(by omega):=atN tE b j (by omega)
    rw [dif_pos hj,dT (by omega)]
    simp only [cond_true,inRN,dT hj,dT (show j < b.length by omega),g1,g2,wS j (by omega),ed_eq]
    by_cases he:a[j] = b[j]'(by omega)
    ·rw [dT he,if_pos he]; rfl
    ·rw [dF he,if_neg he]; rfl
   ·rw [dif_neg hj,dF (by omega)]; rfl) (((a.length:Int) - (0:Int)).toNat + 1) (by omega)
  by_cases e:a = b
  ·rw [dT e]; exact bind_step (hs.trans (congrArg some (if_pos e))) rfl
  ·rw [dF e]; exact bind_step (hs.trans (congrArg some (if_neg e))) rfl
 ·rw [dT (by simp; omega),cond_true,dF (fun e=>h (by rw [e]))]
theorem f24_eq (va vb:List Vx) (ea eb:List Ed) (da db:List Int) (h1:va.length ≤ 1099511627776) (h2:ea.length ≤ 1099511627776) (h3:da.length ≤ 1099511627776):f24 (va,ea,da,()) (vb,eb,db,()) = some (decide (va = vb) && (decide (ea = eb) && decide (da = db)),()):=by
 unfold f24
 by_cases h:va.length = vb.length
 ·simp only
  rw [dF (by simp; omega),cond_false]
  refine bind_step (edges_eq29 ea eb h2) ?_
  by_cases c1:ea = eb
  ·simp only [dT c1,Bool.not_true,cond_false]
   refine bind_step (f30_eq da db h3) ?_
   by_cases c2:da = db
   ·simp only [dT c2,Bool.not_true,cond_false]
    have hs:=same_all va vb va.length rfl h.symm (fun k j=>f24_l4 va ea da vb eb db k j) (.inl ((),(),())) (.inr ((false,()),(),())) (by
     intro k j
     show f24_l4 va ea da vb eb db (k + 1) (j:Int) = _
     conv=>lhs; unfold f24_l4
     by_cases hj:j < va.length
     ·have g1:at_ tV va (j:Int) = va[j]:=atN tV va j hj
      have g2:at_ tV vb (j:Int) = vb[j]'(by omega):=atN tV vb j (by omega)
      rw [dif_pos hj,dT (by omega)]
      simp only [cond_true,inRN,dT hj,dT (show j < vb.length by omega),g1,g2,wS j (by omega),vx_eq]
      by_cases he:va[j] = vb[j]'(by omega)
      ·rw [dT he,if_pos he]; rfl
      ·rw [dF he,if_neg he]; rfl
     ·rw [dif_neg hj,dF (by omega)]; rfl) (((va.length:Int) - (0:Int)).toNat + 1) (by omega)
    by_cases e:va = vb
    ·rw [dT e]; exact bind_step (hs.trans (congrArg some (if_pos e))) rfl
    ·rw [dF e]; exact bind_step (hs.trans (congrArg some (if_neg e))) rfl
   ·simp only [dF c2,Bool.not_false,cond_true]
    rw [Bool.and_false,Bool.and_false]
  ·simp only [dF c1,Bool.not_false,cond_true]
   rw [Bool.false_and,Bool.and_false]
 ·simp only
  rw [dT (by simp; omega),cond_true,dF (fun e:va = vb=>h (by rw [e])),Bool.false_and]
end Go.V.G
namespace Go.V.G
open Go.Proofs
def f10G (F13:tysDen f13_spec.args → Option (tysDen f13_spec.res)) (F15:tysDen f15_spec.args → Option (tysDen f15_spec.res)) (F19:tysDen f19_spec.args → Option (tysDen f19_spec.res)) (F22:tysDen f22_spec.args → Option (tysDen f22_spec.res)) (F24:tysDen f24_spec.args → Option (tysDen f24_spec.res)) (F25:tysDen f25_spec.args → Option (tysDen f25_spec.res)) (F27:tysDen f27_spec.args → Option (tysDen f27_spec.res)) (F30:tysDen f30_spec.args → Option (tysDen f30_spec.res)) (pF31:tysDen pf31_spec.args → Option (tysDen pf31_spec.res)) (F34:tysDen f34_spec.args → Option (tysDen f34_spec.res)):Option (Bool × Unit) :=
 (F19 ((([((0:Int),(0,())),((2:Int),((1:Int),()))]:List Vx),(([((1:Int),((2:Int),((0:Int),(true,((7:Int),((1:Int),())))))),((3:Int),((2:Int),((2:Int),(false,(0,(0,()))))))]:List Ed),(([(0:Int)]:List Int),()))),((0:Int),()))).bind fun y1 =>
 (F19 ((([((0:Int),(0,())),((2:Int),((1:Int),()))]:List Vx),(([((1:Int),((2:Int),((0:Int),(true,((7:Int),((1:Int),())))))),((3:Int),((2:Int),((2:Int),(false,(0,(0,()))))))]:List Ed),(([(0:Int)]:List Int),()))),((1:Int),()))).bind fun y2 =>
 (F25 (y1.1,())).bind fun y3 =>
 (F13 ((([((0:Int),(0,())),((2:Int),((1:Int),()))]:List Vx),(([((1:Int),((2:Int),((0:Int),(true,((7:Int),((1:Int),())))))),((3:Int),((2:Int),((2:Int),(false,(0,(0,()))))))]:List Ed),(([(0:Int)]:List Int),()))),())).bind fun y4 =>
 (F15 ((([((0:Int),(0,())),((2:Int),((1:Int),()))]:List Vx),(([((1:Int),((2:Int),((0:Int),(true,((7:Int),((1:Int),())))))),((3:Int),((2:Int),((2:Int),(false,(0,(0,()))))))]:List Ed),(([(0:Int)]:List Int),()))),())).bind fun y5 =>
 (F22 (y4.1,())).bind fun y6 =>
 (F34 ((([((0:Int),(0,())),((2:Int),((1:Int),()))]:List Vx),(([((1:Int),((2:Int),((0:Int),(true,((7:Int),((1:Int),())))))),((3:Int),((2:Int),((2:Int),(false,(0,(0,()))))))]:List Ed),(([(0:Int)]:List Int),()))),(([((0:Int),(([(5:Int)]:List Int),())),((1:Int),(([(6:Int)]:List Int),())),((2:Int),(([(7:Int)]:List Int),()))]:List Nm),((0:Int),())))).bind fun y7 =>
 bif (decide (y1.2.1 ≠ (0:Int))) then
 some (false,())
 else
 bif (decide (y2.2.1 ≠ (60:Int))) then
 some (false,())
 else
 bif (decide (y3.2.2.1 ≠ (0:Int))) then
 some (false,())
 else
 bif (decide (y4.2.1 ≠ (0:Int))) then
 some (false,())
 else
 bif (decide (y5.2.1 ≠ (0:Int))) then
 some (false,())
 else
 bif (decide (y6.2.1 ≠ (0:Int))) then
 some (false,())
 else
 bif (decide (y7.2.1 ≠ (0:Int))) then
 some (false,())
 else
 let v8:Bool:=(decide ((y4.1.length:Int) ≠ (3:Int)))
 bif v8 then
 some (false,())
 else
 let v9:Bool:=(decide ((y3.2.1.length:Int) ≠ (1:Int)))
 bif v9 then
 some (false,())
 else
 let v10:Bool:=(decide ((y7.1.2.2.2.1.length:Int) ≠ (2:Int)))
 bif v10 then
 some (false,())
 else
 let v11:Bool:=(decide ((y5.1.size:Int) ≠ (32:Int)))
 bif v11 then
 some (false,())
 else
 bif (inR (2:Int) y4.1.length) then
 let v12:ByteArray:=(at_ tN y4.1 (2:Int)).2.1
 (F27 (v12,())).bind fun y13 =>
 (pF31 ((2:Int),(([((1:Int),((2:Int),((0:Int),(true,((7:Int),((1:Int),())))))),((3:Int),((2:Int),((2:Int),(false,(0,(0,()))))))]:List Ed),()))).bind fun y14 =>
 let v15:Bool:=(decide (y1.1 = (⟨#[0,0,2,2,4,0,2,14,2]⟩:ByteArray)))
 bif v15 then
 bif (inR (0:Int) y4.1.length) then
 let v16:ByteArray:=(at_ tN y4.1 (0:Int)).2.1
 bif (decide (v16 = y1.1)) then
 bif (inR (2:Int) y4.1.length) then
 let v17:Int:=(at_ tN y4.1 (2:Int)).1
 bif (decide (v17 = (63:Int))) then
 bif (inR (2:Int) y4.1.length) then
 let v18:ByteArray:=(at_ tN y4.1 (2:Int)).2.1
 let v19:Bool:=(decide (v18 = (⟨#[2,0,20]⟩:ByteArray)))
 bif v19 then
 bif (inR (0:Int) ([((0:Int),(0,())),((2:Int),((1:Int),()))]:List Vx).length) then
 let v20:Bool:=(decide (y3.1.1 = (at_ tV ([((0:Int),(0,())),((2:Int),((1:Int),()))]:List Vx) (0:Int)).1) && (decide (y3.1.2.1 = (at_ tV ([((0:Int),(0,())),((2:Int),((1:Int),()))]:List Vx) (0:Int)).2.1) && true))
 bif v20 then
 bif (inR (0:Int) y3.2.1.length) then
 bif (inR (0:Int) ([((1:Int),((2:Int),((0:Int),(true,((7:Int),((1:Int),())))))),((3:Int),((2:Int),((2:Int),(false,(0,(0,()))))))]:List Ed).length) then
 let v21:Bool:=(decide ((at_ tE y3.2.1 (0:Int)).1 = (at_ tE ([((1:Int),((2:Int),((0:Int),(true,((7:Int),((1:Int),())))))),((3:Int),((2:Int),((2:Int),(false,(0,(0,()))))))]:List Ed) (0:Int)).1) && (decide ((at_ tE y3.2.1 (0:Int)).2.1 = (at_ tE ([((1:Int),((2:Int),((0:Int),(true,((7:Int),((1:Int),())))))),((3:Int),((2:Int),((2:Int),(false,(0,(0,()))))))]:List Ed) (0:Int)).2.1) && (decide ((at_ tE y3.2.1 (0:Int)).2.2.1 = (at_ tE ([((1:Int),((2:Int),((0:Int),(true,((7:Int),((1:Int),())))))),((3:Int),((2:Int),((2:Int),(false,(0,(0,()))))))]:List Ed) (0:Int)).2.2.1) && (decide ((at_ tE y3.2.1 (0:Int)).2.2.2.1 = (at_ tE ([((1:Int),((2:Int),((0:Int),(true,((7:Int),((1:Int),())))))),((3:Int),((2:Int),((2:Int),(false,(0,(0,()))))))]:List Ed) (0:Int)).2.2.2.1) && (decide ((at_ tE y3.2.1 (0:Int)).2.2.2.2.1 = (at_ tE ([((1:Int),((2:Int),((0:Int),(true,((7:Int),((1:Int),())))))),((3:Int),((2:Int),((2:Int),(false,(0,(0,()))))))]:List Ed) (0:Int)).2.2.2.2.1) && (decide ((at_ tE y3.2.1 (0:Int)).2.2.2.2.2.1 = (at_ tE ([((1:Int),((2:Int),((0:Int),(true,((7:Int),((1:Int),())))))),((3:Int),((2:Int),((2:Int),(false,(0,(0,()))))))]:List Ed) (0:Int)).2.2.2.2.2.1) && true))))))
 bif v21 then
 bif (decide (y13.2.2.1 = (0:Int))) then
 bif (decide (y13.2.1 = (10:Int))) then
 (F30 (y13.1,(([(0:Int)]:List Int),()))).bind fun y22 =>
 bif y22.1 then
 (F30 (y14.1,(([(0:Int)]:List Int),()))).bind fun y23 =>
 bif y23.1 then
 (F24 (y6.1,((([((0:Int),(0,())),((2:Int),((1:Int),()))]:List Vx),(([((1:Int),((2:Int),((0:Int),(true,((7:Int),((1:Int),())))))),((3:Int),((2:Int),((2:Int),(false,(0,(0,()))))))]:List Ed),(([(0:Int)]:List Int),()))),()))).bind fun y24 =>
 bif y24.1 then
 bif (inR (1:Int) y7.1.2.2.2.1.length) then
 let v25:Int:=(at_ tM y7.1.2.2.2.1 (1:Int)).1
 some ((decide (v25 = (2:Int))),())
 else none
 else
 some (false,())
 else
 some (false,())
 else
 some (false,())
 else
 some (false,())
 else
 some (false,())
 else
 some (false,())
 else none
 else none
 else
 some (false,())
 else none
 else
 some (false,())
 else none
 else
 some (false,())
 else none
 else
 some (false,())
 else none
 else
 some (false,())
 else none
def f10:Option (Bool × Unit):=f10G f13_spec.fn f15_spec.fn f19_spec.fn f22_spec.fn f24_spec.fn f25_spec.fn f27_spec.fn f30_spec.fn pf31_spec.fn f34_spec.fn
def f10_spec:PSpec:={ args:=[],res:=[.bool],fn:=fun x=>f10  }
noncomputable def f10_code:Code:=Tryz.f10.body.getD .skip
noncomputable def f10_envG (F13:tysDen f13_spec.args → Option (tysDen f13_spec.res)) (F15:tysDen f15_spec.args → Option (tysDen f15_spec.res)) (F19:tysDen f19_spec.args → Option (tysDen f19_spec.res)) (F22:tysDen f22_spec.args → Option (tysDen f22_spec.res)) (F24:tysDen f24_spec.args → Option (tysDen f24_spec.res)) (F25:tysDen f25_spec.args → Option (tysDen f25_spec.res)) (F27:tysDen f27_spec.args → Option (tysDen f27_spec.res)) (F30:tysDen f30_spec.args → Option (tysDen f30_spec.res)) (pF31:tysDen pf31_spec.args → Option (tysDen pf31_spec.res)) (F34:tysDen f34_spec.args → Option (tysDen f34_spec.res)):Env0:={ C:=cfg,P:=[(13,{ args:=f13_spec.args,res:=f13_spec.res,fn:=F13 }),(15,{ args:=f15_spec.args,res:=f15_spec.res,fn:=F15 }),(19,{ args:=f19_spec.args,res:=f19_spec.res,fn:=F19 }),(22,{ args:=f22_spec.args,res:=f22_spec.res,fn:=F22 }),(24,{ args:=f24_spec.args,res:=f24_spec.res,fn:=F24 }),(25,{ args:=f25_spec.args,res:=f25_spec.res,fn:=F25 }),(27,{ args:=f27_spec.args,res:=f27_spec.res,fn:=F27 }),(30,{ args:=f30_spec.args,res:=f30_spec.res,fn:=F30 }),(31,{ args:=pf31_spec.args,res:=pf31_spec.res,fn:=pF31 }),(34,{ args:=f34_spec.args,res:=f34_spec.res,fn:=F34 })],L:=[],F:=[(10,Tryz.f10)] }
theorem f10_runG (F13:tysDen f13_spec.args → Option (tysDen f13_spec.res)) (F15:tysDen f15_spec.args → Option (tysDen f15_spec.res)) (F19:tysDen f19_spec.args → Option (tysDen f19_spec.res)) (F22:tysDen f22_spec.args → Option (tysDen f22_spec.res)) (F24:tysDen f24_spec.args → Option (tysDen f24_spec.res)) (F25:tysDen f25_spec.args → Option (tysDen f25_spec.res)) (F27:tysDen f27_spec.args → Option (tysDen f27_spec.res)) (F30:tysDen f30_spec.args → Option (tysDen f30_spec.res)) (pF31:tysDen pf31_spec.args → Option (tysDen pf31_spec.res)) (F34:tysDen f34_spec.args → Option (tysDen f34_spec.res)) (x:tysDen (f10_spec).args):runF (f10_envG F13 F15 F19 F22 F24 F25 F27 F30 pF31 F34) 10 Tryz.f10 f10_code (f10_spec).args (f10_spec).res x = f10G F13 F15 F19 F22 F24 F25 F27 F30 pF31 F34:=by kernel_rfl
noncomputable def f10_env:Env0:=f10_envG f13_spec.fn f15_spec.fn f19_spec.fn f22_spec.fn f24_spec.fn f25_spec.fn f27_spec.fn f30_spec.fn pf31_spec.fn f34_spec.fn
theorem f10_run (x:tysDen (f10_spec).args):runF f10_env 10 Tryz.f10 f10_code (f10_spec).args (f10_spec).res x = f10_spec.fn x:=f10_runG f13_spec.fn f15_spec.fn f19_spec.fn f22_spec.fn f24_spec.fn f25_spec.fn f27_spec.fn f30_spec.fn pf31_spec.fn f34_spec.fn x
theorem f10_enter:Enterable Tryz.prog 10:=enter_fun Tryz.func10 (by kernel_rfl)
theorem f10_envOK:EnvOK Tryz.prog f10_env:=envOK_of cds (by kernel_rfl) cfg_ok ⟨⟨f13_pure,f13_enter⟩,⟨f15_pure,f15_enter⟩,⟨f19_pure,f19_enter⟩,⟨f22_pure,f22_enter⟩,⟨f24_pure,f24_enter⟩,⟨f25_pure,f25_enter⟩,⟨f27_pure,f27_enter⟩,⟨f30_pure,f30_enter⟩,⟨pf31_pure,pf31_enter⟩,⟨f34_pure,f34_enter⟩,trivial⟩ trivial ⟨⟨Tryz.func10,by kernel_rfl⟩,trivial⟩ trivial trivial trivial
theorem f10_pure:PureOK Tryz.prog cfg 10 f10_spec:=pure_of_run f10_envOK (fn:=Tryz.f10) (c:=f10_code) rfl rfl f10_spec (fun x _ h=>(f10_run x).trans h)
end Go.V.G
namespace Go.V.G
open Go.Proofs
def exV:List Vx:=[(0,0,()),(2,1,())]
def exE:List Ed:=[(1,2,0,true,7,1,()),(3,2,2,false,0,0,())]
def exL:List Nm:=[(0,[5],()),(1,[6],()),(2,[7],())]
theorem ex_valid:valid (exV,exE,[0],()) = true:=by decide
theorem encs_is:∀ (l:List Int) (zs:List Nat),l.map zig = zs → (∀ z ∈ zs,z < 128) → nbytes (encs l) = zs
 | [],zs,h,_=>by subst h; rfl
 | n :: l,zs,h,hz=>by
  subst h
  have h1:=hz (zig n) (by simp)
  show nbytes (enc n ++ encs l) = _
  rw [nbytes_app,nbytes_enc,grpN_lt h1,encs_is l (l.map zig) rfl (fun z hz'=>hz z (by simp at hz' ⊢; exact .inr hz'))]
  rfl
theorem ex_page:encs (pageN (0,0,()) (atE exE 0)) = (⟨#[0,0,2,2,4,0,2,14,2]⟩:ByteArray):=by
 apply nbytes_inj
 rw [encs_is _ [0,0,2,2,4,0,2,14,2] (by decide) (by decide)]
 decide
theorem ex_head:encs (headN exE [0]) = (⟨#[2,0,20]⟩:ByteArray):=by
 apply nbytes_inj
 rw [encs_is _ [2,0,20] (by decide) (by decide)]
 decide
theorem root15 {vs es ds} (hv:valid (vs,es,ds,()) = true):f15 (vs,es,ds,()) = some (rootD (entsG vs es ds),0,()):=by
 have h:=ok_of _ _ _ hv
 unfold f15
 refine bind_step (entries_p vs es ds hv) ?_
 refine bind_step (f13_eq (ents_valid h)) ?_
 rfl
theorem ex_root:(rootD (entsG exV exE [0])).size = 32:=by
 have h:=ok_of _ _ _ ex_valid
 exact D_size (fun e he=>((ents_valid h).val e he).2) 6 0
theorem sane_run (F13:tysDen f13_spec.args → Option (tysDen f13_spec.res)) (F15:tysDen f15_spec.args → Option (tysDen f15_spec.res)) (F19:tysDen f19_spec.args → Option (tysDen f19_spec.res)) (F22:tysDen f22_spec.args → Option (tysDen f22_spec.res)) (F24:tysDen f24_spec.args → Option (tysDen f24_spec.res)) (F25:tysDen f25_spec.args → Option (tysDen f25_spec.res)) (F27:tysDen f27_spec.args → Option (tysDen f27_spec.res)) (F30:tysDen f30_spec.args → Option (tysDen f30_spec.res)) (pF31:tysDen pf31_spec.args → Option (tysDen pf31_spec.res)) (F34:tysDen f34_spec.args → Option (tysDen f34_spec.res))
  (p2 r:ByteArray) (hr:r.size = 32)
  (h19a:F19 ((exV,exE,[0],()),0,()) = some ((⟨#[0,0,2,2,4,0,2,14,2]⟩:ByteArray),(0:Int),()))
  (h19b:F19 ((exV,exE,[0],()),1,()) = some ((⟨#[]⟩:ByteArray),(60:Int),()))
  (h25:F25 ((⟨#[0,0,2,2,4,0,2,14,2]⟩:ByteArray),()) = some (((0,0,()):Vx),([(1,2,0,true,7,1,())]:List Ed),(0:Int),()))
  (h13:F13 ((exV,exE,[0],()),()) = some (([(0,(⟨#[0,0,2,2,4,0,2,14,2]⟩:ByteArray),()),(2,p2,()),(63,(⟨#[2,0,20]⟩:ByteArray),())]:List En),(0:Int),()))
  (h15:F15 ((exV,exE,[0],()),()) = some (r,(0:Int),()))
  (h22:F22 (([(0,(⟨#[0,0,2,2,4,0,2,14,2]⟩:ByteArray),()),(2,p2,()),(63,(⟨#[2,0,20]⟩:ByteArray),())]:List En),()) = some ((exV,exE,[0],()),(0:Int),()))
  (h34:F34 ((exV,exE,[0],()),exL,0,()) = some ((((0,0,()):Vx),([0]:List Int),([(1,2,0,true,7,1,())]:List Ed),([(0,[5],()),(2,[7],())]:List Nm),()),(0:Int),()))
  (h27:F27 ((⟨#[2,0,20]⟩:ByteArray),()) = some (([0]:List Int),(10:Int),(0:Int),()))
  (h31:pF31 (2,exE,()) = some (([0]:List Int),()))
  (h30:F30 ([0],[0],()) = some (true,()))
  (h24:F24 ((exV,exE,[0],()),(exV,exE,[0],()),()) = some (true,())) :
  f10G F13 F15 F19 F22 F24 F25 F27 F30 pF31 F34 = some (true,()):=by
 unfold f10G
 refine bind_step h19a ?_
 refine bind_step h19b ?_
 refine bind_step h25 ?_
 refine bind_step h13 ?_
 refine bind_step h15 ?_
 refine bind_step h22 ?_
 refine bind_step h34 ?_
 show (bif decide ((r.size:Int) ≠ 32) then some (false,()) else Option.bind (F27 ((⟨#[2,0,20]⟩:ByteArray),())) _) = _
 rw [dF (by omega),cond_false]
 refine bind_step h27 ?_
 refine bind_step h31 ?_
 refine bind_step h30 ?_
 refine bind_step h30 ?_
 refine bind_step h24 ?_
 rfl
theorem sane_eq:f10 = some (true,()):=by
 have hok:=ok_of _ _ _ ex_valid
 have h19a:f19 (exV,exE,[0],()) 0 = some (encs (pageN (0,0,()) (atE exE 0)),0,()):=by
  rcases page_p exV exE [0] 0 (by decide) (by decide) (by decide) with ⟨_,v,hv,h1,h2⟩ | ⟨h1,_⟩
  ·have:v = (0,0,()):=by
    rcases List.mem_cons.1 hv with rfl | hv
    ·rfl
    ·rw [List.mem_singleton.1 hv] at h1; cases h1
   rw [h2,this]
  ·exact absurd h1 (by decide)
 have h19b:f19 (exV,exE,[0],()) 1 = some (⟨#[]⟩,60,()):=by
  rcases page_p exV exE [0] 1 (by decide) (by decide) (by decide) with ⟨_,v,hv,h1,h2⟩ | ⟨_,h1⟩
  ·rcases List.mem_cons.1 hv with rfl | hv
   ·cases h1
   ·rw [List.mem_singleton.1 hv] at h1; cases h1
  ·exact h1
 have h25:f25 (encs (pageN (0,0,()) (atE exE 0))) = some ((0,0,()),atE exE 0,0,()):=by
  have hp:=parse_row hok (v:=(0,0,())) (by decide)
  have hp':parse (nbytes (encs (pageN (0,0,()) (atE exE 0)))) = some ((0,0,()),atE exE 0):=hp
  rw [f25_eq _ (by rw [ex_page]; decide),hp']
  rfl
 have h13:=entries_p exV exE [0] ex_valid
 have h15:=root15 ex_valid
 have h22:=join_yes ex_valid
 have h34:f34 (exV,exE,[0],()) exL 0 = some (((0,0,()),[0],atE exE 0,kept 0 (nb 0 (atE exE 0)) exL,()),0,()):=by
  rcases view_p exV exE [0] exL 0 (by decide) (by decide) (by decide) (by decide) (by decide) with ⟨_,_,v,hv,h1,h2⟩ | ⟨h1,_⟩
  ·have:v = (0,0,()):=by
    rcases List.mem_cons.1 hv with rfl | hv
    ·rfl
    ·rw [List.mem_singleton.1 hv] at h1; cases h1
   rw [h2,this]
  ·exact absurd h1 (by decide)
 have nb0:nb 0 (atE exE 0) = [2]:=by
  refine asc_ext kI _ _ (nb_asc _ _) (by decide) fun x=>?_
  rw [nb_mem]
  constructor
  ·rintro ⟨h1,e,he,_,h2⟩
   have:e = (1,2,0,true,7,1,()):=by
    have:e ∈ [(1,2,0,true,7,1,())]:=he
    exact List.mem_singleton.1 this
   subst this
   rw [← h2]
   decide
  ·intro h
   rw [List.mem_singleton] at h
   subst h
   exact ⟨by decide,(1,2,0,true,7,1,()),by decide,by decide,by decide⟩
 have nb2:nb 2 exE = [0]:=by
  refine asc_ext kI _ _ (nb_asc _ _) (by decide) fun x=>?_
  rw [nb_mem]
  constructor
  ·rintro ⟨h1,e,he,_,h2⟩
   rcases List.mem_cons.1 he with rfl | he
   ·rw [← h2]; decide
   ·rw [List.mem_singleton.1 he] at h2
    exact absurd h2.symm h1
  ·intro h
   rw [List.mem_singleton] at h
   subst h
   exact ⟨by decide,(1,2,0,true,7,1,()),by decide,by decide,by decide⟩
 have h27:f27 (encs (headN exE [0])) = some ([0],10,0,()):=by
  rw [f27_eq _ (by rw [ex_head]; decide),parseH_head hok]
  decide
 have h31:pf31 2 exE = some ([0],()):=by rw [pf31_eq 2 exE (by decide),nb2]
 have h30:f30 [0] [0] = some (true,()):=by rw [f30_eq _ _ (by decide)]; rfl
 have h24:f24 (exV,exE,[0],()) (exV,exE,[0],()) = some (true,()):=by
  rw [f24_eq _ _ _ _ _ _ (by decide) (by decide) (by decide)]
  simp
 have ha:atE exE 0 = [(1,2,0,true,7,1,())]:=by decide
 have hk:kept 0 [2] exL = [(0,[5],()),(2,[7],())]:=by decide
 have he:entsG exV exE [0] = [(0,(⟨#[0,0,2,2,4,0,2,14,2]⟩:ByteArray),()),(2,encs (pageN (2,1,()) (atE exE 2)),()),(63,(⟨#[2,0,20]⟩:ByteArray),())]:=by
  rw [← ex_page,← ex_head]
  rfl
 rw [ex_page] at h19a h25
 rw [ha] at h25
 rw [he] at h13 h22
 rw [nb0,hk,ha] at h34
 rw [ex_head] at h27
 have run:=sane_run f13_spec.fn f15_spec.fn f19_spec.fn f22_spec.fn f24_spec.fn f25_spec.fn f27_spec.fn f30_spec.fn pf31_spec.fn f34_spec.fn (encs (pageN (2,1,()) (atE exE 2))) (rootD (entsG exV exE [0])) ex_root
 have g19:∀ g n,f19_spec.fn (g,n,()) = f19 g n:=fun _ _=>rfl
 have g25:∀ s,f25_spec.fn (s,()) = f25 s:=fun _=>rfl
 have g13:∀ g,f13_spec.fn (g,()) = f13 g:=fun _=>rfl
 have g15:∀ g,f15_spec.fn (g,()) = f15 g:=fun _=>rfl
 have g22:∀ l,f22_spec.fn (l,()) = f22 l:=fun _=>rfl
 have g34:∀ g l n,f34_spec.fn (g,l,n,()) = f34 g l n:=fun _ _ _=>rfl
 have g27:∀ s,f27_spec.fn (s,()) = f27 s:=fun _=>rfl
 have g31:∀ n l,pf31_spec.fn (n,l,()) = pf31 n l:=fun _ _=>rfl
 have g30:∀ a b,f30_spec.fn (a,b,()) = f30 a b:=fun _ _=>rfl
 have g24:∀ a b,f24_spec.fn (a,b,()) = f24 a b:=fun _ _=>rfl
 exact run ((g19 _ _).trans h19a) ((g19 _ _).trans h19b) ((g25 _).trans h25) ((g13 _).trans h13) ((g15 _).trans h15) ((g22 _).trans h22) ((g34 _ _ _).trans h34) ((g27 _).trans h27) ((g31 _ _).trans h31) ((g30 _ _).trans h30) ((g24 _ _).trans h24)
end Go.V.G
