/- Part of the proof. -/
import Derived.KernelRfl
import Derived.Test.YtijakakpbijdkaaGreatDoorA10
set_option linter.all false
set_option linter.unusedVariables false
set_option linter.unusedSectionVars false
set_option linter.unusedSimpArgs false
namespace Go.V.G
open Go.Proofs
theorem wrapS {x:Int} (h1:-9223372036854775808≤x) (h2:x≤9223372036854775807):IntKind.wrap .i64 x = x:=by
 unfold IntKind.wrap
 simp only [IntKind.signed,IntKind.bits,Bool.true_and,decide_eq_true_eq,show (2:Int) ^ 64 = 18446744073709551616 from rfl,show (2:Int) ^ (64 - 1) = 9223372036854775808 from rfl]
 split <;> omega
theorem inR_of {i:Int} {n:Nat} (h1:0≤i) (h2:i < n):inR i n = true:=by
 unfold inR
 simp [h1,h2]
theorem decT {p:Prop} [Decidable p] (h:p):decide p = true:=zT h
theorem decF {p:Prop} [Decidable p] (h:¬ p):decide p = false:=zF h
theorem at_append {T:Ty} {l m:List T.den} {i:Int} (h:i.toNat < l.length):at_ T (l++m) i = at_ T l i:=by
 unfold at_
 rw [List.getD_eq_getElem?_getD,List.getD_eq_getElem?_getD,List.getElem?_append_left h]
theorem orV_comm (k:IntKind) (x y:Int):orV k x y = orV k y x:=by
 unfold orV
 rw [BitVec.or_comm]
theorem wrap_u32 (x:Int):IntKind.wrap .u32 x = x % 4294967296:=by
 unfold IntKind.wrap
 simp only [IntKind.signed,IntKind.bits]
 simp
theorem xor_zero_or (x y:Int):xorV .u32 0 (orV .u32 x y) = orV .u32 x y:=by
 unfold xorV orV
 simp only [wrap_u32,IntKind.bits]
 have hb:∀ b:BitVec 32,(BitVec.ofInt 32 0 ^^^ BitVec.ofInt 32 ((b.toNat:Int) % 4294967296)).toNat = b.toNat:=by
  intro b
  have h1:BitVec.ofInt 32 0 = 0#32:=rfl
  have hlt:=b.isLt
  have h2:((b.toNat:Int) % 4294967296) = b.toNat:=by omega
  rw [h1,BitVec.zero_xor,h2,BitVec.ofInt_natCast,BitVec.ofNat_toNat,BitVec.setWidth_eq]
 exact congrArg (fun n:Nat=>(n:Int) % 4294967296) (hb (BitVec.ofInt 32 x ||| BitVec.ofInt 32 y))
def rotr (x:Int) (n m:Int):Int:=orV .u32 (shrV .u32 x n) (shlV .u32 x m)
theorem mixed2 (x:Int):(f162 x [7,18] = some (xorV .u32 (rotr x 7 25) (rotr x 18 14),()))∧(f162 x [17,19] = some (xorV .u32 (rotr x 17 15) (rotr x 19 13),())):=by
 constructor
 ·have h:f162 x [7,18] = some (xorV .u32 (xorV .u32 0 (orV .u32 (shlV .u32 x 25) (shrV .u32 x 7))) (orV .u32 (shlV .u32 x 14) (shrV .u32 x 18)),()):=by kernel_rfl
  rw [h,xor_zero_or,orV_comm,orV_comm .u32 (shlV .u32 x 14)]
  rfl
 ·have h:f162 x [17,19] = some (xorV .u32 (xorV .u32 0 (orV .u32 (shlV .u32 x 15) (shrV .u32 x 17))) (orV .u32 (shlV .u32 x 13) (shrV .u32 x 19)),()):=by kernel_rfl
  rw [h,xor_zero_or,orV_comm,orV_comm .u32 (shlV .u32 x 13)]
  rfl
theorem mixed3 (x:Int):(f162 x [6,11,25] = some (xorV .u32 (xorV .u32 (rotr x 6 26) (rotr x 11 21)) (rotr x 25 7),()))∧(f162 x [2,13,22] = some (xorV .u32 (xorV .u32 (rotr x 2 30) (rotr x 13 19)) (rotr x 22 10),())):=by
 constructor
 ·have h:f162 x [6,11,25] = some (xorV .u32 (xorV .u32 (xorV .u32 0 (orV .u32 (shlV .u32 x 26) (shrV .u32 x 6))) (orV .u32 (shlV .u32 x 21) (shrV .u32 x 11))) (orV .u32 (shlV .u32 x 7) (shrV .u32 x 25)),()):=by kernel_rfl
  rw [h,xor_zero_or,orV_comm,orV_comm .u32 (shlV .u32 x 21),orV_comm .u32 (shlV .u32 x 7)]
  rfl
 ·have h:f162 x [2,13,22] = some (xorV .u32 (xorV .u32 (xorV .u32 0 (orV .u32 (shlV .u32 x 30) (shrV .u32 x 2))) (orV .u32 (shlV .u32 x 19) (shrV .u32 x 13))) (orV .u32 (shlV .u32 x 10) (shrV .u32 x 22)),()):=by kernel_rfl
  rw [h,xor_zero_or,orV_comm,orV_comm .u32 (shlV .u32 x 19),orV_comm .u32 (shlV .u32 x 10)]
  rfl
theorem rot_eq (x:Int):q192 x 7 = some (rotr x 7 25,())∧q192 x 18 = some (rotr x 18 14,())∧q192 x 17 = some (rotr x 17 15,())∧q192 x 19 = some (rotr x 19 13,()) ∧
  q192 x 6 = some (rotr x 6 26,())∧q192 x 11 = some (rotr x 11 21,())∧q192 x 25 = some (rotr x 25 7,())∧q192 x 2 = some (rotr x 2 30,())∧q192 x 13 = some (rotr x 13 19,())∧q192 x 22 = some (rotr x 22 10,()):=by
 refine ⟨?_,?_,?_,?_,?_,?_,?_,?_,?_,?_⟩ <;> kernel_rfl
theorem bindE {α β:Type} {o:Option α} {a:α} {f:α→Option β} {r:Option β} (h:o = some a) (h2:f a = r):o.bind f = r:=by rw [h]; exact h2
theorem rep_succ (n:Nat) (h:n < 64):List.replicate (64 - n) (0:Int) = 0 :: List.replicate (64 - (n + 1)) 0:=by
 have:64 - n = (64 - (n + 1)) + 1:=by omega
 rw [this,List.replicate_succ]
theorem set_mid (r s:List Int) (x y:Int) (n:Nat) (h:r.length = n):(r++y :: s).set n x = (r++[x])++s:=by
 subst h
 induction r with
 | nil=>rfl
 | cons a r ih=>simp
theorem sched1 (c h:List Int) (hc:c.length = 64):∀ (m n:Nat) (r:List Int),n + m = 16→r.length = n →
  ∃ r':List Int,r'.length = 16∧f161_l2 c (m + 1) n (r++List.replicate (64 - n) 0) = some ((),(),((r'++List.replicate 48 0,()),()))∧q139_l3 h c (m + 1) n r = some ((h,()),(),(r',()))
 | 0,n,r,hn,hr=>by
  have:n = 16:=by omega
  subst this
  refine ⟨r,hr,?_,?_⟩
  ·rfl
  ·rfl
 | m + 1,n,r,hn,hr=>by
  have hn':n < 16:=by omega
  have e0:IntKind.wrap .i64 ((4:Int) * (n:Int)) = 4 * n:=wrapS (by omega) (by omega)
  have e1:IntKind.wrap .i64 ((4:Int) * (n:Int) + 1) = 4 * n + 1:=wrapS (by omega) (by omega)
  have e2:IntKind.wrap .i64 ((4:Int) * (n:Int) + 2) = 4 * n + 2:=wrapS (by omega) (by omega)
  have e3:IntKind.wrap .i64 ((4:Int) * (n:Int) + 3) = 4 * n + 3:=wrapS (by omega) (by omega)
  have e4:IntKind.wrap .i64 ((n:Int) + 1) = ((n + 1:Nat):Int):=by rw [wrapS (by omega) (by omega)]; omega
  have i0:inR ((4:Int) * n) 64 = true:=inR_of (by omega) (by omega)
  have i1:inR ((4:Int) * n + 1) 64 = true:=inR_of (by omega) (by omega)
  have i2:inR ((4:Int) * n + 2) 64 = true:=inR_of (by omega) (by omega)
  have i3:inR ((4:Int) * n + 3) 64 = true:=inR_of (by omega) (by omega)
  have i4:inR (n:Int) 64 = true:=inR_of (by omega) (by omega)
  obtain ⟨r',k1,k2,k3⟩:=sched1 c h hc m (n + 1) (r++[_]) (by omega) (by simp [hr])
  refine ⟨r',k1,?_,?_⟩
  ·rw [f161_l2]
   simp only [decT (show (n:Int) < 16 by omega),cond_true,e0,e1,e2,e3,e4,hc,i0,i1,i2,i3,i4,Int.toNat_natCast]
   rw [rep_succ n (by omega),set_mid _ _ _ _ n hr]
   exact k2
  ·rw [q139_l3]
   have l:(r.length + 1≤appLim):=by rw [hr]; unfold appLim; omega
   simp only [decT (show (n:Int) < 16 by omega),cond_true,e0,e1,e2,e3,e4,hc,i0,i1,i2,i3,List.length_singleton,decT l]
   exact k3
theorem at_tail {l:List Int} {i:Int} {z:List Int} (h:i.toNat < l.length):at_ (.int .u32) (l++z) i = at_ (.int .u32) l i:=at_append (T:=.int .u32) h
theorem sched2 (h:List Int):∀ (m n:Nat) (r:List Int),n + m = 64→16≤n→r.length = n →
  ∃ r':List Int,r'.length = 64∧f161_l7 (m + 1) n (r++List.replicate (64 - n) 0) = some ((),(),((r',()),()))∧q139_l7 h (m + 1) n r = some ((h,()),(),(r',()))
 | 0,n,r,hn,h16,hr=>by
  have:n = 64:=by omega
  subst this
  refine ⟨r,hr,?_,?_⟩
  ·have:r++List.replicate (64 - 64) (0:Int) = r:=by simp
   rw [this]
   rfl
  ·rfl
 | m + 1,n,r,hn,h16,hr=>by
  have hn':n < 64:=by omega
  have e1:IntKind.wrap .i64 ((n:Int) - 15) = n - 15:=wrapS (by omega) (by omega)
  have e2:IntKind.wrap .i64 ((n:Int) - 2) = n - 2:=wrapS (by omega) (by omega)
  have e3:IntKind.wrap .i64 ((n:Int) - 16) = n - 16:=wrapS (by omega) (by omega)
  have e5:IntKind.wrap .i64 ((n:Int) - 7) = n - 7:=wrapS (by omega) (by omega)
  have e4:IntKind.wrap .i64 ((n:Int) + 1) = ((n + 1:Nat):Int):=by rw [wrapS (by omega) (by omega)]; rfl
  have i1:inR ((n:Int) - 15) 64 = true:=inR_of (by omega) (by omega)
  have i2:inR ((n:Int) - 2) 64 = true:=inR_of (by omega) (by omega)
  have i3:inR ((n:Int) - 16) 64 = true:=inR_of (by omega) (by omega)
  have i5:inR ((n:Int) - 7) 64 = true:=inR_of (by omega) (by omega)
  have i4:inR (n:Int) 64 = true:=inR_of (by omega) (by omega)
  have j1:inR ((n:Int) - 15) n = true:=inR_of (by omega) (by omega)
  have j2:inR ((n:Int) - 2) n = true:=inR_of (by omega) (by omega)
  have j3:inR ((n:Int) - 16) n = true:=inR_of (by omega) (by omega)
  have j5:inR ((n:Int) - 7) n = true:=inR_of (by omega) (by omega)
  have a1:at_ (.int .u32) (r++List.replicate (64 - n) 0) ((n:Int) - 15) = at_ (.int .u32) r ((n:Int) - 15):=at_tail (by omega)
  have a2:at_ (.int .u32) (r++List.replicate (64 - n) 0) ((n:Int) - 2) = at_ (.int .u32) r ((n:Int) - 2):=at_tail (by omega)
  have a3:at_ (.int .u32) (r++List.replicate (64 - n) 0) ((n:Int) - 16) = at_ (.int .u32) r ((n:Int) - 16):=at_tail (by omega)
  have a5:at_ (.int .u32) (r++List.replicate (64 - n) 0) ((n:Int) - 7) = at_ (.int .u32) r ((n:Int) - 7):=at_tail (by omega)
  obtain ⟨r',k1,k2,k3⟩:=sched2 h m (n + 1) (r++[_]) (by omega) (by omega) (by simp [hr])
  refine ⟨r',k1,?_,?_⟩
  ·rw [f161_l7]
   simp only [decT (show (n:Int) < 64 by omega),cond_true,e1,e2,e3,e4,e5,i1,i2,i3,i4,i5,a1,a2,a3,a5,(mixed2 _).1,(mixed2 _).2,Option.bind_some,Int.toNat_natCast]
   rw [rep_succ n (by omega),set_mid _ _ _ _ n hr]
   exact k2
  ·rw [q139_l7]
   have l:(r.length + 1≤appLim):=by rw [hr]; unfold appLim; omega
   simp only [decT (show (n:Int) < 64 by omega),cond_true,e1,e2,e3,e4,e5,hr,j1,j2,j3,j5,(rot_eq _).1,(rot_eq _).2.1,(rot_eq _).2.2.1,(rot_eq _).2.2.2.1,Option.bind_some,List.length_singleton]
   rw [hr] at l
   simp only [decT l,cond_true]
   exact k3
theorem eight {l:List Int} (h:l.length = 8):∃ a b c d e f g i,l = [a,b,c,d,e,f,g,i]:=by
 match l,h with
 | [a,b,c,d,e,f,g,i],_=>exact ⟨a,b,c,d,e,f,g,i,rfl⟩
theorem sha_rounds (h K b3 w:List Int) (hK:K.length = 64) (hw:w.length = 64):∀ (m n:Nat) (v:List Int),n + m = 64→v.length = 8 →
  ∃ v':List Int,v'.length = 8∧f116_l3 K b3 w (m + 1) n v = some ((),((),()),((b3,()),(v',()),()))∧q139_l16 h K w (m + 1) v n = some ((h,v',()),(),())
 | 0,n,v,hn,hv=>by
  have:n = 64:=by omega
  subst this
  exact ⟨v,hv,rfl,rfl⟩
 | m + 1,n,v,hn,hv=>by
  have hn':n < 64:=by omega
  obtain ⟨a,b,c,d,e,f,g,i,rfl⟩:=eight hv
  have e4:IntKind.wrap .i64 ((n:Int) + 1) = ((n + 1:Nat):Int):=by rw [wrapS (by omega) (by omega)]; rfl
  have i4:inR (n:Int) 64 = true:=inR_of (by omega) (by omega)
  obtain ⟨v',k1,k2,k3⟩:=sha_rounds h K b3 w hK hw m (n + 1) [_,a,b,c,_,e,f,g] (by omega) rfl
  refine ⟨v',k1,?_,?_⟩
  ·rw [f116_l3]
   simp only [decT (show (n:Int) < 64 by omega),cond_true,i4,(mixed3 _).1,(mixed3 _).2,Option.bind_some,e4]
   exact k2
  ·rw [q139_l16]
   simp only [decT (show (n:Int) < 64 by omega),cond_true,hK,hw,i4,(rot_eq _).2.2.2.2.1,(rot_eq _).2.2.2.2.2.1,(rot_eq _).2.2.2.2.2.2.1,(rot_eq _).2.2.2.2.2.2.2.1,(rot_eq _).2.2.2.2.2.2.2.2.1,(rot_eq _).2.2.2.2.2.2.2.2.2,Option.bind_some,e4]
   exact k3
theorem added (h v:List Int) (hh:h.length = 8) (hv:v.length = 8):∃ r:List Int,r.length = 8∧f116_l12 v 9 0 h = some ((),((),()),((r,()),()))∧q139_l25 h v 9 0 [] = some ((),(),(r,())):=by
 obtain ⟨a,b,c,d,e,f,g,i,rfl⟩:=eight hh
 obtain ⟨a',b',c',d',e',f',g',i',rfl⟩:=eight hv
 exact ⟨[IntKind.wrap .u32 (a + a'),IntKind.wrap .u32 (b + b'),IntKind.wrap .u32 (c + c'),IntKind.wrap .u32 (d + d'),IntKind.wrap .u32 (e + e'),IntKind.wrap .u32 (f + f'),IntKind.wrap .u32 (g + g'),IntKind.wrap .u32 (i + i')],rfl,by kernel_rfl,by kernel_rfl⟩
theorem block_eq (h c:List Int) (hh:h.length = 8) (hc:c.length = 64):∃ r:List Int,r.length = 8∧f116 c h = some ((),((r,()),()))∧q139 h c = some (r,()):=by
 obtain ⟨w1,a1,a2,a3⟩:=sched1 c h hc 16 0 [] rfl rfl
 obtain ⟨w2,b1,b2,b3⟩:=sched2 h 48 16 w1 rfl (Nat.le_refl _) a1
 obtain ⟨v,c1,c2,c3⟩:=sha_rounds h roundTable h w2 (by kernel_rfl) b1 64 0 h rfl hh
 obtain ⟨r,d1,d2,d3⟩:=added h v hh c1
 refine ⟨r,d1,?_,?_⟩
 ·have e82:f161 c = some (w2,()):=by
   unfold f161
   exact bindE a2 (bindE b2 rfl)
  unfold f116
  exact bindE e82 (bindE c2 (bindE d2 rfl))
 ·unfold q139
  have e87:q193 = some (roundTable,()):=by kernel_rfl
  have l:h.length≤appLim:=by rw [hh]; unfold appLim; omega
  refine bindE a3 (bindE b3 (bindE e87 ?_))
  show (bif decide (h.length≤appLim) then _ else none) = _
  rw [decT l]
  exact bindE c3 (bindE d3 rfl)
theorem blocks_eq (b:List Int) (hb:b.length≤appLim):∀ (m k n:Nat) (h:List Int),n + 64 * m = b.length→m < k→h.length = 8 →
  ∃ r:List Int,r.length = 8∧f160_l1x b 64 k n h = some ((),((),(),()),((),(r,()),()))∧q89_l4 b k h n = some ((r,()),(),())
 | 0,0,n,h,_,hk,_=>by omega
 | 0,k + 1,n,h,hn,_,hh=>by
  refine ⟨h,hh,?_,?_⟩
  ·rw [f160_l1x]; rw [decF (by omega)]; rfl
  ·rw [q89_l4]; rw [decF (by omega)]; rfl
 | m + 1,0,n,h,_,hk,_=>by omega
 | m + 1,k + 1,n,h,hn,hk,hh=>by
  have hlim:b.length≤1073741824:=hb
  have e4:IntKind.wrap .i64 ((n:Int) + 64) = ((n + 64:Nat):Int):=by rw [wrapS (by omega) (by omega)]; rfl
  have hc:((b.take (n + 64)).drop n).length = 64:=by rw [List.length_drop,List.length_take]; omega
  obtain ⟨h',q1,q2,q3⟩:=block_eq h _ hh hc
  obtain ⟨r,k1,k2,k3⟩:=blocks_eq b hb m k (n + 64) h' (by omega) (by omega) q1
  have dl:((b.drop n).length:Int) = ((b.length - n:Nat):Int):=by rw [List.length_drop]
  refine ⟨r,k1,?_,?_⟩
  ·rw [f160_l1x]
   have c1:cutOk b.length (some (n:Int)) none = true:=by unfold cutOk; simp; omega
   have c2:cutOk b.length (some (n:Int)) (some ((n + 64:Nat):Int)) = true:=by unfold cutOk; simp only [Bool.and_eq_true,decide_eq_true_eq]; omega
   have c3:(if ((b.length - n:Nat):Int) < 64 then ((b.length - n:Nat):Int) else 64) = 64:=by split <;> omega
   simp only [decT (show (n:Int) < b.length by omega),cond_true,c1,Int.toNat_natCast,dl,c3,e4,c2,decide_true,Bool.and_self,q2,Option.bind_some]
   exact k2
  ·rw [q89_l4]
   have c2:cutOk b.length (some (n:Int)) (some ((n + 64:Nat):Int)) = true:=by unfold cutOk; simp only [Bool.and_eq_true,decide_eq_true_eq]; omega
   simp only [decT (show (n:Int) < b.length by omega),cond_true,Int.toNat_natCast,e4,c2,q3,Option.bind_some]
   exact k3
theorem out_eq (h:List Int) (hh:h.length = 8):∃ r:List Int,r.length = 32∧f117 h = some (ofBytes r,())∧q89_l9 h 9 0 [] = some ((),(),(r,())):=by
 obtain ⟨a,b,c,d,e,f,g,i,rfl⟩:=eight hh
 have hx:∃ r:List Int,q89_l9 [a,b,c,d,e,f,g,i] 9 0 [] = some ((),(),(r,()))∧r.length = 32∧f117 [a,b,c,d,e,f,g,i] = some (ofBytes r,()):=by
  refine ⟨[IntKind.wrap .u8 (shrV .u32 a 24),IntKind.wrap .u8 (shrV .u32 a 16),IntKind.wrap .u8 (shrV .u32 a 8),IntKind.wrap .u8 a,IntKind.wrap .u8 (shrV .u32 b 24),IntKind.wrap .u8 (shrV .u32 b 16),IntKind.wrap .u8 (shrV .u32 b 8),IntKind.wrap .u8 b,
   IntKind.wrap .u8 (shrV .u32 c 24),IntKind.wrap .u8 (shrV .u32 c 16),IntKind.wrap .u8 (shrV .u32 c 8),IntKind.wrap .u8 c,IntKind.wrap .u8 (shrV .u32 d 24),IntKind.wrap .u8 (shrV .u32 d 16),IntKind.wrap .u8 (shrV .u32 d 8),IntKind.wrap .u8 d,
   IntKind.wrap .u8 (shrV .u32 e 24),IntKind.wrap .u8 (shrV .u32 e 16),IntKind.wrap .u8 (shrV .u32 e 8),IntKind.wrap .u8 e,IntKind.wrap .u8 (shrV .u32 f 24),IntKind.wrap .u8 (shrV .u32 f 16),IntKind.wrap .u8 (shrV .u32 f 8),IntKind.wrap .u8 f,
   IntKind.wrap .u8 (shrV .u32 g 24),IntKind.wrap .u8 (shrV .u32 g 16),IntKind.wrap .u8 (shrV .u32 g 8),IntKind.wrap .u8 g,IntKind.wrap .u8 (shrV .u32 i 24),IntKind.wrap .u8 (shrV .u32 i 16),IntKind.wrap .u8 (shrV .u32 i 8),IntKind.wrap .u8 i],by kernel_rfl,rfl,?_⟩
  have h0:∀ y:Int,shrV .u32 y 0 = y:=fun y=>by simp [shrV,IntKind.bits]
  have hz:f117 [a,b,c,d,e,f,g,i] = some (ofBytes [IntKind.wrap .u8 (shrV .u32 a 24),IntKind.wrap .u8 (shrV .u32 a 16),IntKind.wrap .u8 (shrV .u32 a 8),IntKind.wrap .u8 (shrV .u32 a 0),IntKind.wrap .u8 (shrV .u32 b 24),IntKind.wrap .u8 (shrV .u32 b 16),IntKind.wrap .u8 (shrV .u32 b 8),IntKind.wrap .u8 (shrV .u32 b 0),
   IntKind.wrap .u8 (shrV .u32 c 24),IntKind.wrap .u8 (shrV .u32 c 16),IntKind.wrap .u8 (shrV .u32 c 8),IntKind.wrap .u8 (shrV .u32 c 0),IntKind.wrap .u8 (shrV .u32 d 24),IntKind.wrap .u8 (shrV .u32 d 16),IntKind.wrap .u8 (shrV .u32 d 8),IntKind.wrap .u8 (shrV .u32 d 0),
   IntKind.wrap .u8 (shrV .u32 e 24),IntKind.wrap .u8 (shrV .u32 e 16),IntKind.wrap .u8 (shrV .u32 e 8),IntKind.wrap .u8 (shrV .u32 e 0),IntKind.wrap .u8 (shrV .u32 f 24),IntKind.wrap .u8 (shrV .u32 f 16),IntKind.wrap .u8 (shrV .u32 f 8),IntKind.wrap .u8 (shrV .u32 f 0),
   IntKind.wrap .u8 (shrV .u32 g 24),IntKind.wrap .u8 (shrV .u32 g 16),IntKind.wrap .u8 (shrV .u32 g 8),IntKind.wrap .u8 (shrV .u32 g 0),IntKind.wrap .u8 (shrV .u32 i 24),IntKind.wrap .u8 (shrV .u32 i 16),IntKind.wrap .u8 (shrV .u32 i 8),IntKind.wrap .u8 (shrV .u32 i 0)],()):=by kernel_rfl
  rw [hz]
  simp only [h0]
 obtain ⟨r,h1,h2,h3⟩:=hx
 exact ⟨r,h2,h3,h1⟩
theorem toBytes_length (s:ByteArray):(toBytes s).length = s.size:=by
 unfold toBytes
 rw [List.length_map]
 exact Array.length_toList
theorem byteAt_eq (s:ByteArray) (n:Nat) (h:n < s.size):(toBytes s)[n]? = some (byteAt s n):=by
 have hl:n < s.data.toList.length:=by rw [Array.length_toList]; exact h
 unfold toBytes byteAt
 rw [List.getElem?_map,List.getElem?_eq_getElem hl,Option.map_some,Int.toNat_natCast,List.getD_eq_getElem?_getD,List.getElem?_eq_getElem hl]
 rfl
theorem copy_eq (s:ByteArray) (hs:s.size≤1000000):∀ (m n:Nat),n + m = s.size→q138_l3 s (m + 1) n ((toBytes s).take n) = some ((s,()),(),(toBytes s,()))
 | 0,n,hn=>by
  rw [q138_l3,decF (by omega)]
  have:(toBytes s).take n = toBytes s:=List.take_of_length_le (by rw [toBytes_length]; omega)
  rw [this]
  rfl
 | m + 1,n,hn=>by
  have e4:IntKind.wrap .i64 ((n:Int) + 1) = ((n + 1:Nat):Int):=by rw [wrapS (by omega) (by omega)]; rfl
  have hn2:n < (toBytes s).length:=by rw [toBytes_length]; omega
  have e5:(toBytes s).take n++[byteAt s n] = (toBytes s).take (n + 1):=by
   have h1:=byteAt_eq s n (by omega)
   rw [List.getElem?_eq_getElem hn2] at h1
   rw [List.take_succ_eq_append_getElem hn2,Option.some.inj h1]
  have l:((toBytes s).take n).length + 1≤appLim:=by rw [List.length_take]; unfold appLim; omega
  rw [q138_l3]
  simp only [decT (show (n:Int) < s.size by omega),cond_true,inR_of (show (0:Int)≤n by omega) (show (n:Int) < s.size by omega),List.length_singleton,decT l,e4,e5]
  exact copy_eq s hs m (n + 1) (by omega)
theorem tmod64 (r:List Int):Int.tmod (r.length:Int) 64 = ((r.length % 64:Nat):Int):=rfl
theorem pad1 (s:ByteArray) (b3:List Int):∀ (k:Nat) (r:List Int),(120 - r.length % 64) % 64 < k→r.length + (120 - r.length % 64) % 64≤appLim →
  ∃ r':List Int,r'.length = r.length + (120 - r.length % 64) % 64∧f97_l3 s b3 k r = some ((s,()),(),((b3,()),r',()))∧q138_l7 s k r = some ((s,()),(),(r',()))
 | 0,r,hk,_=>by omega
 | k + 1,r,hk,hl=>by
  have ht:=tmod64 r
  by_cases h56:r.length % 64 = 56
  ·have hn:¬ Int.tmod (r.length:Int) 64 ≠ 56:=by omega
   refine ⟨r,by omega,?_,?_⟩
   ·rw [f97_l3,decF hn]; rfl
   ·rw [q138_l7,decF hn]; rfl
  ·have h1:Int.tmod (r.length:Int) 64 ≠ 56:=by omega
   have l:r.length + 1≤appLim:=by omega
   have hlen:(r++[(0:Int)]).length = r.length + 1:=by simp
   obtain ⟨r',q1,q2,q3⟩:=pad1 s b3 k (r++[0]) (by rw [hlen]; omega) (by rw [hlen]; omega)
   refine ⟨r',by rw [q1,hlen]; omega,?_,?_⟩
   ·rw [f97_l3]
    simp only [decT h1,cond_true,List.length_singleton,decT l]
    exact q2
   ·rw [q138_l7]
    simp only [decT h1,cond_true,List.length_singleton,decT l]
    exact q3
theorem pad2 (s:ByteArray) (b3:List Int):∀ (m:Nat) (r:List Int),m≤8→r.length + m≤appLim →
  ∃ r':List Int,r'.length = r.length + m∧f97_l6 s b3 (m + 1) ((m:Int) - 1) r = some ((),(),((b3,()),r',()))∧q138_l10 s (m + 1) ((m:Int) - 1) r = some ((),(),(r',()))
 | 0,r,_,_=>⟨r,rfl,rfl,rfl⟩
 | m + 1,r,hm,hl=>by
  have e0:((m + 1:Nat):Int) - 1 = m:=by omega
  have e1:IntKind.wrap .i64 ((8:Int) * (m:Int)) = 8 * m:=wrapS (by omega) (by omega)
  have e2:IntKind.wrap .i64 ((m:Int) - 1) = m - 1:=wrapS (by omega) (by omega)
  have l:r.length + 1≤appLim:=by omega
  obtain ⟨r',q1,q2,q3⟩:=pad2 s b3 m (r++[IntKind.wrap .u8 (shrV .i64 (IntKind.wrap .i64 ((8:Int) * (s.size:Int))) (8 * (m:Int)))]) (by omega) (by rw [List.length_append,List.length_singleton]; omega)
  refine ⟨r',by rw [q1,List.length_append,List.length_singleton]; omega,?_,?_⟩
  ·rw [f97_l6,e0]
   simp only [decT (show (m:Int) ≥ 0 by omega),cond_true,e1,decT (show (0:Int)≤8 * m by omega),List.length_singleton,decT l,e2]
   exact q2
  ·rw [q138_l10,e0]
   simp only [decT (show (m:Int) ≥ 0 by omega),cond_true,e1,decT (show (0:Int)≤8 * m by omega),List.length_singleton,decT l,e2]
   exact q3
theorem sha_eq (s:ByteArray) (hs:s.size≤1000000):∃ r:List Int,r.length = 32∧f97 s = some (ofBytes r,())∧q89 s = some (ofBytes r,()):=by
 have hb:=toBytes_length s
 obtain ⟨h0,hh0⟩:∃ h0:List Int,h0 = [(1779033703:Int),(3144134277:Int),(1013904242:Int),(2773480762:Int),(1359893119:Int),(2600822924:Int),(528734635:Int),(1541459225:Int)]:=⟨_,rfl⟩
 have l1:(toBytes s).length + 1≤appLim:=by rw [hb]; unfold appLim; omega
 have hl1:(toBytes s++[(128:Int)]).length = s.size + 1:=by rw [List.length_append,hb]; rfl
 obtain ⟨r1,a1,a2,a3⟩:=pad1 s h0 64 (toBytes s++[128]) (by omega) (by rw [hl1]; unfold appLim; omega)
 rw [hl1] at a1
 obtain ⟨r2,b1,b2,b3⟩:=pad2 s h0 8 r1 (Nat.le_refl _) (by rw [a1]; unfold appLim; omega)
 have hm:∃ m,0 + 64 * m = r2.length:=⟨r2.length / 64,by rw [b1,a1]; omega⟩
 obtain ⟨m,hm⟩:=hm
 obtain ⟨h,c1,c2,c3⟩:=blocks_eq r2 (by rw [b1,a1]; unfold appLim; omega) m (r2.length + 1) 0 h0 hm (by omega) (by rw [hh0]; rfl)
 obtain ⟨r,d1,d2,d3⟩:=out_eq h c1
 have ec:(((r2.length:Int) - 0).toNat + 1) = r2.length + 1:=by omega
 refine ⟨r,d1,?_,?_⟩
 ·unfold f97
  simp only [List.length_singleton]
  rw [decT l1,cond_true,← hh0]
  refine bindE a2 (bindE b2 ?_)
  show (f160_l1x r2 64 (((r2.length:Int) - 0).toNat + 1) 0 h0).bind _ = _
  rw [ec]
  refine bindE c2 ?_
  exact bindE d2 rfl
 ·have e71:q138 s = some (r2,()):=by
   unfold q138
   have k1:q138_l3 s (((s.size:Int) - 0).toNat + 1) 0 [] = some ((s,()),(),(toBytes s,())):=by
    have:((s.size:Int) - 0).toNat + 1 = s.size + 1:=by omega
    rw [this]
    exact copy_eq s hs s.size 0 (by omega)
   refine bindE k1 ?_
   show (bif decide ((toBytes s).length + 1≤appLim) then _ else none) = _
   rw [decT l1,cond_true]
   exact bindE a3 (bindE b3 rfl)
  unfold q89
  refine bindE e71 ?_
  show (q89_l4 r2 (((r2.length:Int) - 0).toNat + 1) _ 0).bind _ = _
  rw [ec,← hh0]
  refine bindE c3 ?_
  exact bindE d3 rfl
end Go.V.G
namespace Go.V.G
open Go.Proofs
namespace TR
abbrev Ent:=Int × (ByteArray × Unit)
theorem ofBytes_size (r:List Int):(ofBytes r).size = r.length:=by
 unfold ofBytes
 show (List.toArray _).size = _
 rw [List.size_toArray,List.length_map]
def sha (s:ByteArray):ByteArray :=
 match f97 s with
 | some y=>y.1
 | none=>⟨#[]⟩
theorem sha_spec (s:ByteArray) (hs:s.size≤1000000):f97 s = some (sha s,())∧q89 s = some (sha s,())∧(sha s).size = 32:=by
 obtain ⟨r,h1,h2,h3⟩:=sha_eq s hs
 have e:sha s = ofBytes r:=by unfold sha; rw [h2]
 rw [e]
 exact ⟨h2,h3,by rw [ofBytes_size,h1]⟩
def zeroD:ByteArray:=ofBytes (List.replicate 32 0)
theorem zero_eq:f108 = some (zeroD,())∧f34 = some (zeroD,()):=by constructor <;> kernel_rfl
theorem zero_size:zeroD.size = 32:=by kernel_rfl
def emp:ByteArray:=⟨#[]⟩
structure Valid (l:List Ent):Prop where
 key:∀ e∈l,0≤e.1∧e.1 < 64
 val:∀ e∈l,e.2.1.size ≠ 0∧e.2.1.size≤65536
 asc:l.Pairwise (fun a b=>a.1 < b.1)
theorem asc_len:∀ (l:List Ent) (lo:Int),(∀ e∈l,lo≤e.1∧e.1 < 64)→l.Pairwise (fun a b=>a.1 < b.1)→lo≤64→(l.length:Int)≤64 - lo
 | [],lo,_,_,h=>by simp; omega
 | e :: l,lo,hk,ha,hlo=>by
  have h0:=hk e (by simp)
  rw [List.pairwise_cons] at ha
  have:=asc_len l (e.1 + 1) (fun x hx=>⟨by have:=ha.1 x hx; omega,(hk x (by simp [hx])).2⟩) ha.2 (by omega)
  simp only [List.length_cons]
  omega
theorem Valid.len {l:List Ent} (h:Valid l):l.length≤64:=by
 have:=asc_len l 0 h.key h.asc (by omega)
 omega
def atK:List Ent→Int→ByteArray
 | [],_=>emp
 | e :: l,k=>if e.1 = k then e.2.1 else atK l k
theorem at_get {T:Ty} {l:List T.den} {n:Nat} {x:T.den} (h:l[n]? = some x):at_ T l (n:Int) = x:=by
 unfold at_
 rw [Int.toNat_natCast,List.getD_eq_getElem?_getD,h]
 rfl
abbrev TE:Ty:=.pair yI (.pair .str .unit)
def kb (k:Int):ByteArray:=ofBytes [2 * k]
theorem key_enc:∀ n:Nat,n < 64→f87 n = some (kb n,0,())∧True:=by
 have h:(List.range 64).all (fun n=>(match f87 n with | some (s,e,_)=>decide (s = kb n) && decide (e = 0) | none=>false)) = true:=by kernel_rfl
 intro n hn
 have h1:=List.all_eq_true.1 h n (List.mem_range.2 hn)
 refine ⟨?_,trivial⟩
 split at h1
 ·rename_i s e u heq
  simp only [Bool.and_eq_true,decide_eq_true_eq] at h1
  rw [heq,h1.1,h1.2]
 ·cases h1
def leafS (k:Int) (v:ByteArray):ByteArray:=((⟨#[8]⟩:ByteArray)++kb k)++v
def leafD (k:Int) (v:ByteArray):ByteArray:=if v = emp then zeroD else sha (leafS k v)
def joinS (a b:ByteArray):ByteArray:=((⟨#[9]⟩:ByteArray)++a)++b
def joinD (a b:ByteArray):ByteArray:=if a = zeroD∧b = zeroD then zeroD else sha (joinS a b)
theorem kb_size (k:Int):(kb k).size = 1:=by unfold kb; rw [ofBytes_size]; rfl
theorem leafS_size (k:Int) (v:ByteArray):(leafS k v).size = v.size + 2:=by
 unfold leafS
 rw [ByteArray.size_append,ByteArray.size_append,kb_size]
 show 1 + 1 + v.size = _
 omega
theorem joinS_size (a b:ByteArray):(joinS a b).size = a.size + b.size + 1:=by
 unfold joinS
 rw [ByteArray.size_append,ByteArray.size_append]
 show 1 + a.size + b.size = _
 omega
theorem catOk_of {x y:ByteArray} (h:x.size + y.size≤2000000):catOk x y = true:=by
 unfold catOk
 exact zT (by omega)
theorem f66_eq (k:Nat) (hk:k < 64) (v:ByteArray) (hv:v.size≤65536):f109 k v = some (leafD k v,()):=by
 unfold f109 leafD
 by_cases he:v = emp
 ·rw [if_pos he]
  have:decide (v = (⟨#[]⟩:ByteArray)) = true:=zT he
  rw [this,cond_true]
  exact bindE zero_eq.1 rfl
 ·rw [if_neg he]
  have:decide (v = (⟨#[]⟩:ByteArray)) = false:=zF he
  rw [this,cond_false]
  refine bindE (key_enc k hk).1 ?_
  show (bif catOk (⟨#[8]⟩:ByteArray) (kb k) then (bif catOk ((⟨#[8]⟩:ByteArray)++kb k) v then _ else none) else none) = _
  rw [catOk_of (by rw [kb_size]; decide),catOk_of (by rw [ByteArray.size_append,kb_size]; show 1 + 1 + v.size≤_; omega),cond_true,cond_true]
  exact bindE (sha_spec (leafS k v) (by rw [leafS_size]; omega)).1 rfl
theorem f67_eq (a b:ByteArray) (ha:a.size≤100) (hb:b.size≤100):f110 a b = some (joinD a b,()):=by
 have c1:catOk (⟨#[9]⟩:ByteArray) a = true:=catOk_of (by show 1 + a.size≤_; omega)
 have c2:catOk ((⟨#[9]⟩:ByteArray)++a) b = true:=catOk_of (by rw [ByteArray.size_append]; show 1 + a.size + b.size≤_; omega)
 have hs:=(sha_spec (joinS a b) (by rw [joinS_size]; omega)).1
 unfold f110 joinD
 refine bindE zero_eq.1 ?_
 show (bif decide (a = zeroD) then _ else _) = _
 by_cases h1:a = zeroD
 ·rw [decT h1,cond_true]
  refine bindE zero_eq.1 ?_
  show (bif decide (b = zeroD) then _ else _) = _
  by_cases h2:b = zeroD
  ·rw [decT h2,cond_true,if_pos ⟨h1,h2⟩]
   exact bindE zero_eq.1 rfl
  ·rw [decF h2,cond_false,if_neg (fun h=>h2 h.2),c1,c2,cond_true,cond_true]
   exact bindE hs rfl
 ·rw [decF h1,cond_false,if_neg (fun h=>h1 h.1),c1,c2,cond_true,cond_true]
  exact bindE hs rfl
theorem leafD_size (k:Int) (v:ByteArray) (hv:v.size≤65536):(leafD k v).size = 32:=by
 unfold leafD
 split
 ·exact zero_size
 ·exact (sha_spec _ (by rw [leafS_size]; omega)).2.2
theorem joinD_size (a b:ByteArray) (ha:a.size≤100) (hb:b.size≤100):(joinD a b).size = 32:=by
 unfold joinD
 split
 ·exact zero_size
 ·exact (sha_spec _ (by rw [joinS_size]; omega)).2.2
def D (l:List Ent):Nat→Int→ByteArray
 | 0,low=>leafD low (atK l low)
 | h + 1,low=>joinD (D l h low) (D l h (low + 2 ^ h))
theorem atK_size {l:List Ent} (hv:∀ e∈l,e.2.1.size≤65536) (k:Int):(atK l k).size≤65536:=by
 induction l with
 | nil=>show (0:Nat)≤_; omega
 | cons e l ih =>
  unfold atK
  split
  ·exact hv e (by simp)
  ·exact ih (fun x hx=>hv x (by simp [hx]))
theorem D_size {l:List Ent} (hv:∀ e∈l,e.2.1.size≤65536):∀ (h:Nat) (low:Int),(D l h low).size = 32
 | 0,low=>leafD_size _ _ (atK_size hv low)
 | h + 1,low=>joinD_size _ _ (by rw [D_size hv h low]; omega) (by rw [D_size hv h _]; omega)
end TR
end Go.V.G
namespace Go.V.G
open Go.Proofs
namespace TR
theorem drop_get {α:Type} {l rest:List α} {n:Nat} {e:α} (h:l.drop n = e :: rest):n < l.length∧l[n]? = some e∧l.drop (n + 1) = rest:=by
 have hlt:n < l.length:=by
  have:=congrArg List.length h
  rw [List.length_drop,List.length_cons] at this
  omega
 refine ⟨hlt,?_,by rw [← List.drop_drop,h]; rfl⟩
 have:=congrArg (fun x=>x[0]?) h
 simpa using this
theorem next64 (n:Nat) (h:n≤1000000):IntKind.wrap .i64 ((n:Int) + 1) = ((n + 1:Nat):Int):=by rw [wrapS (by omega) (by omega)]; rfl
theorem keysOf (l:List Ent) (b:Bool) (hl:l.length≤1000000):∀ (rest:List Ent) (n m:Nat) (acc:List Int),l.drop n = rest→n≤l.length→rest.length < m→acc.length + rest.length≤1000000 →
  f105_l3_b5000 l l.length l b m n acc = some ((),((l,b,()),()),(acc++rest.map (·.1),()))
 | [],n,0,_,_,_,hm,_=>by simp at hm
 | [],n,m + 1,acc,hd,hn,_,_=>by
  have:l.length≤n:=List.drop_eq_nil_iff.1 hd
  rw [f105_l3_b5000,decF (by omega),List.map_nil,List.append_nil]
  rfl
 | e :: rest,n,0,_,_,_,hm,_=>by simp at hm
 | e :: rest,n,m + 1,acc,hd,hn,hm,ha=>by
  obtain ⟨hlt,hg,hd'⟩:=drop_get hd
  have he:at_ TE l (n:Int) = e:=at_get (T:=TE) hg
  have hi:inR (n:Int) l.length = true:=inR_of (by omega) (by omega)
  simp only [List.length_cons] at hm ha
  have h42:f106 e = some (e.1,()):=rfl
  rw [f105_l3_b5000]
  simp only [decT (show (n:Int) < l.length by omega),cond_true,hi,he,h42,Option.bind_some,List.length_singleton,decT (show acc.length + 1≤appLim by unfold appLim; omega),next64 n (by omega)]
  rw [keysOf l b hl rest (n + 1) m (acc++[e.1]) hd' hlt (by omega) (by simp; omega)]
  rw [List.append_assoc]
  rfl
theorem ascKeys (ks:List Int) (hl:ks.length≤1000000) (hr:∀ k∈ks,0≤k∧k < 64) (ha:ks.Pairwise (· < ·)):∀ (rest:List Int) (n m:Nat),ks.drop n = rest→n≤ks.length→rest.length < m →
  f104_l2 ks ks ks.length m n = some (.inl ((),(),()))
 | [],n,0,_,_,hm=>by simp at hm
 | [],n,m + 1,hd,hn,_=>by
  have:ks.length≤n:=List.drop_eq_nil_iff.1 hd
  rw [f104_l2,decF (by omega)]
  rfl
 | k :: rest,n,0,_,_,hm=>by simp at hm
 | k :: rest,n,m + 1,hd,hn,hm=>by
  obtain ⟨hlt,hg,hd'⟩:=drop_get hd
  have hk:at_ yI ks (n:Int) = k:=at_get (T:=.int .i64) hg
  have hmem:k∈ks:=List.mem_of_getElem? hg
  have hkr:=hr k hmem
  have hi:inR (n:Int) ks.length = true:=inR_of (by omega) (by omega)
  simp only [List.length_cons] at hm
  have ih:=ascKeys ks hl hr ha rest (n + 1) m hd' hlt (by omega)
  rw [f104_l2]
  simp only [decT (show (n:Int) < ks.length by omega),cond_true,hi,hk,decF (show ¬ k < 0 by omega),decF (show ¬ k ≥ 64 by omega),cond_false,next64 n (by omega)]
  cases n with
  | zero=>rw [decF (by omega)]; exact ih
  | succ n =>
   have hp:IntKind.wrap .i64 (((n + 1:Nat):Int) - 1) = (n:Int):=by rw [wrapS (by omega) (by omega)]; omega
   have hg2:ks[n]? = some ks[n]:=List.getElem?_eq_getElem (by omega)
   have hk2:at_ yI ks (n:Int) = ks[n]:=at_get (T:=.int .i64) hg2
   have hlt2:ks[n] < k:=by
    have:=List.pairwise_iff_getElem.1 ha n (n + 1) (by omega) hlt (by omega)
    rw [List.getElem?_eq_getElem hlt] at hg
    rw [Option.some.inj hg] at this
    exact this
   rw [decT (by omega)]
   simp only [cond_true,hp,inR_of (show (0:Int)≤n by omega) (show (n:Int) < ks.length by omega),hk2,decF (show ¬ k≤ks[n] by omega),cond_false]
   exact ih
theorem noneWrong (l:List Ent) (hl:l.length≤1000000) (hv:∀ e∈l,e.2.1.size ≠ 0∧e.2.1.size≤65536) (a b c:Bool):∀ (rest:List Ent) (n m:Nat),l.drop n = rest→n≤l.length→rest.length < m →
  f121_l2x l l.length a b c m n = some (.inl ((),((a,()),(b,c,()),()),()))
 | [],n,0,_,_,hm=>by simp at hm
 | [],n,m + 1,hd,hn,_=>by
  have:l.length≤n:=List.drop_eq_nil_iff.1 hd
  rw [f121_l2x,decF (by omega)]
  rfl
 | e :: rest,n,0,_,_,hm=>by simp at hm
 | e :: rest,n,m + 1,hd,hn,hm=>by
  obtain ⟨hlt,hg,hd'⟩:=drop_get hd
  have he:at_ TE l (n:Int) = e:=at_get (T:=TE) hg
  have hi:inR (n:Int) l.length = true:=inR_of (by omega) (by omega)
  have hve:=hv e (List.mem_of_getElem? hg)
  simp only [List.length_cons] at hm
  have h39:f103 e = some (false,()):=by
   unfold f103
   simp only [decF (show ¬ (e.2.1.size:Int) = 0 by omega),cond_false,decF (show ¬ (e.2.1.size:Int) > 65536 by omega)]
  rw [f121_l2x]
  simp only [decT (show (n:Int) < l.length by omega),cond_true,hi,he,h39,Option.bind_some,cond_false,next64 n (by omega)]
  exact noneWrong l hl hv a b c rest (n + 1) m hd' hlt (by omega)
theorem len0 {α:Type} (l:List α):((l.length:Int) - 0).toNat + 1 = l.length + 1:=by omega
theorem f15_valid {l:List Ent} (h:Valid l):f91 l = some (true,()):=by
 have hl:=h.len
 have hk:=keysOf l false (by omega) l 0 (l.length + 1) [] rfl (by omega) (by omega) (by simp; omega)
 have hasc:(l.map (·.1)).Pairwise (· < ·):=by rw [List.pairwise_map]; exact h.asc
 have h40:f104 (l.map (·.1)) = some (true,()):=by
  unfold f104
  rw [len0]
  exact bindE (ascKeys (l.map (·.1)) (by simp; omega) (fun k hk=>by obtain ⟨e,he,rfl⟩:=List.mem_map.1 hk; exact h.key e he) hasc _ 0 _ rfl (by omega) (by simp)) rfl
 unfold f91
 rw [len0]
 refine bindE hk ?_
 refine bindE h40 ?_
 show (f121_l2x l l.length false false true (((l.length:Int) - 0).toNat + 1) 0).bind _ = _
 rw [len0]
 exact bindE (noneWrong l (by omega) h.val false false true l 0 (l.length + 1) rfl (by omega) (by omega)) rfl
theorem at_set {l:List ByteArray} {n j:Nat} {x:ByteArray} (hn:n < l.length):at_ .str (l.set n x) (j:Int) = if n = j then x else at_ .str l (j:Int):=by
 unfold at_
 rw [Int.toNat_natCast,List.getD_eq_getElem?_getD,List.getElem?_set]
 by_cases h:n = j
 ·subst h; rw [if_pos rfl,if_pos rfl]; simp [hn]
 ·rw [if_neg h,if_neg h,List.getD_eq_getElem?_getD]
theorem zeros (l:List Ent) (s:ByteArray) (q:Int):∀ (m n:Nat) (b:List ByteArray),n + m = 64→b.length = 128→(∀ j,j < n→at_ .str b ((64 + j:Nat):Int) = zeroD) →
  ∃ b':List ByteArray,b'.length = 128∧(∀ j,j < 64→at_ .str b' ((64 + j:Nat):Int) = zeroD)∧f92_l3_b8000 l s q (m + 1) n b = some ((l,()),((s,q,()),()),((b',()),()))
 | 0,n,b,hn,hb,hz=>by
  have:n = 64:=by omega
  subst this
  exact ⟨b,hb,hz,rfl⟩
 | m + 1,n,b,hn,hb,hz=>by
  have e1:IntKind.wrap .i64 ((64:Int) + n) = ((64 + n:Nat):Int):=by rw [wrapS (by omega) (by omega)]; omega
  have i1:inR ((64 + n:Nat):Int) 128 = true:=inR_of (by omega) (by omega)
  obtain ⟨b',k1,k2,k3⟩:=zeros l s q m (n + 1) (b.set (64 + n) zeroD) (by omega) (by simp [hb]) (fun j hj=>by
   rw [at_set (by omega)]
   split
   ·rfl
   ·exact hz j (by omega))
  refine ⟨b',k1,k2,?_⟩
  rw [f92_l3_b8000]
  simp only [decT (show (n:Int) < 64 by omega),cond_true,zero_eq.1,Option.bind_some,e1,i1,next64 n (by omega),Int.toNat_natCast]
  exact k3
theorem atK_snoc (p:List Ent) (e:Ent) (j:Int) (hp:∀ x∈p,x.1 ≠ e.1):atK (p++[e]) j = if e.1 = j then e.2.1 else atK p j:=by
 induction p with
 | nil=>rfl
 | cons x p ih =>
  have hx:=hp x (by simp)
  have:=ih (fun y hy=>hp y (by simp [hy]))
  simp only [List.cons_append,atK]
  rw [this]
  by_cases h1:x.1 = j
  ·rw [if_pos h1,if_pos h1,if_neg (by omega)]
  ·rw [if_neg h1,if_neg h1]
theorem leaves {l:List Ent} (h:Valid l) (s:ByteArray) (q:Int):∀ (rest:List Ent) (n m:Nat) (b:List ByteArray),l.drop n = rest→n≤l.length→rest.length < m→b.length = 128 →
  (∀ j:Nat,j < 64→at_ .str b ((64 + j:Nat):Int) = leafD j (atK (l.take n) j)) →
  ∃ b':List ByteArray,b'.length = 128∧(∀ j:Nat,j < 64→at_ .str b' ((64 + j:Nat):Int) = leafD j (atK l j))∧f92_l8_b8000 l l.length s q m n b = some ((),((s,q,()),()),((b',()),()))
 | [],n,0,_,_,_,hm,_,_=>by simp at hm
 | [],n,m + 1,b,hd,hn,_,hb,hz=>by
  have hle:l.length≤n:=List.drop_eq_nil_iff.1 hd
  rw [List.take_of_length_le hle] at hz
  refine ⟨b,hb,hz,?_⟩
  rw [f92_l8_b8000,decF (by omega)]
  rfl
 | e :: rest,n,0,_,_,_,hm,_,_=>by simp at hm
 | e :: rest,n,m + 1,b,hd,hn,hm,hb,hz=>by
  obtain ⟨hlt,hg,hd'⟩:=drop_get hd
  have hl:=h.len
  have he:at_ TE l (n:Int) = e:=at_get (T:=TE) hg
  have hi:inR (n:Int) l.length = true:=inR_of (by omega) (by omega)
  have hmem:e∈l:=List.mem_of_getElem? hg
  have hkey:=h.key e hmem
  have hval:=h.val e hmem
  obtain ⟨k,hk⟩:∃ k:Nat,e.1 = (k:Int):=⟨e.1.toNat,by omega⟩
  have hk64:k < 64:=by omega
  have e1:IntKind.wrap .i64 ((64:Int) + e.1) = ((64 + k:Nat):Int):=by rw [hk,wrapS (by omega) (by omega)]; omega
  have i1:inR ((64 + k:Nat):Int) 128 = true:=inR_of (by omega) (by omega)
  have h66:=f66_eq k hk64 e.2.1 hval.2
  simp only [List.length_cons] at hm
  have htake:l.take (n + 1) = l.take n++[e]:=by
   rw [List.getElem?_eq_getElem hlt] at hg
   rw [List.take_succ_eq_append_getElem hlt,Option.some.inj hg]
  have hfresh:∀ x∈l.take n,x.1 ≠ e.1:=by
   intro x hx
   obtain ⟨i,hi2,hxi⟩:=List.mem_iff_getElem.1 hx
   rw [List.length_take] at hi2
   rw [List.getElem_take] at hxi
   have:=List.pairwise_iff_getElem.1 h.asc i n (by omega) hlt (by omega)
   rw [hxi] at this
   rw [List.getElem?_eq_getElem hlt] at hg
   rw [Option.some.inj hg] at this
   omega
  obtain ⟨b',k1,k2,k3⟩:=leaves h s q rest (n + 1) m (b.set (64 + k) (leafD k e.2.1)) hd' hlt (by omega) (by simp [hb]) (fun j hj=>by
   rw [at_set (by omega),htake,atK_snoc _ _ _ hfresh]
   by_cases hjk:k = j
   ·subst hjk
    rw [if_pos rfl,if_pos hk]
   ·rw [if_neg (by omega),if_neg (by omega)]
    exact hz j hj)
  refine ⟨b',k1,k2,?_⟩
  rw [f92_l8_b8000]
  simp only [decT (show (n:Int) < l.length by omega),cond_true,hi,he]
  rw [hk] at e1 ⊢
  simp only [h66,Option.bind_some,e1,i1,cond_true,next64 n (by omega),Int.toNat_natCast]
  exact k3
def hgt (i:Nat):Nat:=6 - Nat.log2 i
theorem hgt_facts:∀ i:Nat,i < 64→1≤i→hgt i = hgt (2 * i) + 1∧hgt (2 * i + 1) = hgt (2 * i):=by
 have h:(List.range 64).all (fun i=>Nat.beq i 0 || (Nat.beq (hgt i) (hgt (2 * i) + 1) && Nat.beq (hgt (2 * i + 1)) (hgt (2 * i)))) = true:=by kernel_rfl
 intro i hi h1
 have:=List.all_eq_true.1 h i (List.mem_range.2 hi)
 simp only [Bool.or_eq_true,Bool.and_eq_true] at this
 rcases this with h | h
 ·have:=Nat.eq_of_beq_eq_true h; omega
 ·exact ⟨Nat.eq_of_beq_eq_true h.1,Nat.eq_of_beq_eq_true h.2⟩
theorem hgt_leaf:∀ j:Nat,j < 64→hgt (64 + j) = 0:=by
 have h:(List.range 64).all (fun i=>Nat.beq (hgt (64 + i)) 0) = true:=by kernel_rfl
 intro i hi
 exact Nat.eq_of_beq_eq_true (List.all_eq_true.1 h i (List.mem_range.2 hi))
def Nd (l:List Ent) (i:Nat):ByteArray:=D l (hgt i) ((i:Int) * 2 ^ hgt i - 64)
theorem Nd_leaf (l:List Ent) (j:Nat) (hj:j < 64):Nd l (64 + j) = leafD j (atK l j):=by
 unfold Nd
 rw [hgt_leaf j hj]
 have:(((64 + j:Nat):Int) * 2 ^ 0 - 64) = j:=by simp; omega
 rw [this]
 rfl
theorem Nd_join (l:List Ent) (i:Nat) (h1:1≤i) (hi:i < 64):Nd l i = joinD (Nd l (2 * i)) (Nd l (2 * i + 1)):=by
 obtain ⟨e1,e2⟩:=hgt_facts i hi h1
 unfold Nd
 rw [e1,e2]
 have p:(2:Int) ^ (hgt (2 * i) + 1) = 2 ^ hgt (2 * i) * 2:=rfl
 have q1:((2 * i:Nat):Int) * 2 ^ hgt (2 * i) = (i:Int) * 2 ^ (hgt (2 * i) + 1):=by
  rw [p]
  have:((2 * i:Nat):Int) = (i:Int) * 2:=by omega
  rw [this,Int.mul_assoc,Int.mul_comm 2]
 have q2:((2 * i + 1:Nat):Int) * 2 ^ hgt (2 * i) = (i:Int) * 2 ^ (hgt (2 * i) + 1) + 2 ^ hgt (2 * i):=by
  have:((2 * i + 1:Nat):Int) = ((2 * i:Nat):Int) + 1:=by omega
  rw [this,Int.add_mul,q1,Int.one_mul]
 rw [q1,q2]
 show joinD _ _ = _
 congr 2
 omega
theorem Nd_size {l:List Ent} (hv:∀ e∈l,e.2.1.size≤65536) (i:Nat):(Nd l i).size = 32:=D_size hv _ _
theorem joins {l:List Ent} (hv:∀ e∈l,e.2.1.size≤65536) (s:ByteArray) (q:Int):∀ (i:Nat) (b:List ByteArray),i < 64→b.length = 128→(∀ j:Nat,i < j→j < 128→at_ .str b (j:Int) = Nd l j) →
  ∃ b':List ByteArray,b'.length = 128∧(∀ j:Nat,0 < j→j < 128→at_ .str b' (j:Int) = Nd l j)∧f92_l13_b8000 s q (i + 1) i b = some ((),((s,q,()),()),((b',()),()))
 | 0,b,_,hb,hz=>⟨b,hb,hz,rfl⟩
 | i + 1,b,hi,hb,hz=>by
  have e1:IntKind.wrap .i64 ((2:Int) * ((i + 1:Nat):Int)) = ((2 * (i + 1):Nat):Int):=by rw [wrapS (by omega) (by omega)]; omega
  have e2:IntKind.wrap .i64 (((2 * (i + 1):Nat):Int) + 1) = ((2 * (i + 1) + 1:Nat):Int):=next64 _ (by omega)
  have e3:IntKind.wrap .i64 (((i + 1:Nat):Int) - 1) = (i:Int):=by rw [wrapS (by omega) (by omega)]; omega
  have i1:inR ((2 * (i + 1):Nat):Int) 128 = true:=inR_of (by omega) (by omega)
  have i2:inR ((2 * (i + 1) + 1:Nat):Int) 128 = true:=inR_of (by omega) (by omega)
  have i3:inR ((i + 1:Nat):Int) 128 = true:=inR_of (by omega) (by omega)
  have a1:=hz (2 * (i + 1)) (by omega) (by omega)
  have a2:=hz (2 * (i + 1) + 1) (by omega) (by omega)
  have h67:=f67_eq (Nd l (2 * (i + 1))) (Nd l (2 * (i + 1) + 1)) (by rw [Nd_size hv]; omega) (by rw [Nd_size hv]; omega)
  rw [← Nd_join l (i + 1) (by omega) hi] at h67
  obtain ⟨b',k1,k2,k3⟩:=joins hv s q i (b.set (i + 1) (Nd l (i + 1))) (by omega) (by simp [hb]) (fun j hj hj2=>by
   rw [at_set (by omega)]
   split
   ·rename_i h; subst h; rfl
   ·exact hz j (by omega) hj2)
  refine ⟨b',k1,k2,?_⟩
  rw [f92_l13_b8000]
  simp only [decT (show ((i + 1:Nat):Int) > 0 by omega),cond_true,e1,e2,i1,i2,i3,a1,a2,h67,Option.bind_some,e3,Int.toNat_natCast]
  exact k3
theorem take0 (l:List Ent) (j:Int):atK (l.take 0) j = emp:=rfl
def rootD (l:List Ent):ByteArray:=D l 6 0
set_option maxRecDepth 100000 in
theorem f13_eq {l:List Ent} (h:Valid l):f74 l = some (rootD l,0,()):=by
 have hv:∀ e∈l,e.2.1.size≤65536:=fun e he=>(h.val e he).2
 obtain ⟨b1,a1,a2,a3⟩:=zeros l emp 0 64 0 (List.replicate 128 emp) rfl (by simp) (fun j hj=>by omega)
 obtain ⟨b2,c1,c2,c3⟩:=leaves h emp 0 l 0 (l.length + 1) b1 rfl (by omega) (by omega) a1 (fun j hj=>by rw [take0,a2 j hj]; unfold leafD; rw [if_pos rfl])
 obtain ⟨b3,d1,d2,d3⟩:=joins hv emp 0 63 b2 (by omega) c1 (fun j hj hj2=>by
  have:=c2 (j - 64) (by omega)
  have e:64 + (j - 64) = j:=by omega
  rw [e] at this
  rw [this,← Nd_leaf l (j - 64) (by omega),e])
 unfold f74
 refine bindE (f15_valid h) ?_
 simp only [Bool.not_true,cond_false]
 rw [show ((64:Int) - 0).toNat + 1 = 64 + 1 from rfl]
 refine bindE (show f92_l3_b8000 l ⟨#[]⟩ 0 (64 + 1) 0 (List.replicate 128 ⟨#[]⟩) = some ((l,()),((emp,0,()),()),((b1,()),())) from a3) ?_
 simp only
 rw [len0]
 refine bindE c3 ?_
 simp only
 rw [show (63:Int).toNat + 1 = 63 + 1 from rfl]
 refine bindE (show f92_l13_b8000 emp 0 (63 + 1) 63 b2 = some ((),((emp,0,()),()),((b3,()),())) from d3) ?_
 simp only
 have hr:at_ .str b3 (1:Int) = rootD l:=by
  have:=d2 1 (by omega) (by omega)
  rw [show ((1:Nat):Int) = 1 from rfl] at this
  rw [this]
  rfl
 show (bif inR (1:Int) 128 then some (at_ .str b3 1,(0:Int),()) else none) = _
 rw [hr]
 rfl
end TR
end Go.V.G
namespace Go.V.G
open Go.Proofs
def hdr:List Ye:=[((63:Int),(⟨#[0,0]⟩:ByteArray),())]
theorem ex_root:∃ r,f74 hdr = some (r,0,())∧r.size = 32:=by
 have h:TR.Valid hdr:=⟨by simp [hdr],by simp [hdr]; decide,by simp [hdr]⟩
 exact ⟨_,TR.f13_eq h,TR.D_size (fun e he=>(h.val e he).2) _ _⟩
noncomputable def rootH:ByteArray:=Classical.choose ex_root
theorem rootH_eq:f74 hdr = some (rootH,0,()):=(Classical.choose_spec ex_root).1
def c74_a0:tysDen [(.sl yE)]:=(hdr,())
noncomputable def c74_r0:tysDen [.str,.int .i64]:=(rootH,(0:Int),())
theorem c74_row' (l:List Ye) (r:ByteArray) (h:f74 l = some (r,0,())):f74_spec.fn (l,()) = some (r,(0:Int),()):=h
theorem c74_row:f74_spec.fn c74_a0 = some c74_r0:=c74_row' hdr rootH rootH_eq
noncomputable def c74_spec:PSpec:={ args:=[(.sl yE)],res:=[.str,.int .i64],fn:=fun x=>bif tysDeq [(.sl yE)] x c74_a0 then some c74_r0 else none }
theorem c74_pure:PureOK Tryz.prog cfg 74 c74_spec:=fun fz w args x y hG hf ha hy=>f74_pure fz w args x y hG hf ha (by
 change (bif tysDeq [(.sl yE)] x c74_a0 then some c74_r0 else none) = some y at hy
 cases h0:tysDeq [(.sl yE)] x c74_a0
 case true =>
  rw [h0,cond_true] at hy
  rw [tysDeq_eq h0]
  exact c74_row.trans hy
 rw [h0,cond_false] at hy
 exact absurd hy (by simp))
theorem c74_enter:zQ 74:=zN Tryz.func74
noncomputable def c76_code:Code:=Tryz.f76.body.getD .skip
noncomputable def c76_env:Env0:={ C:=cfg,P:=[(157,f157_spec),(74,c74_spec)],L:=[],F:=[(76,Tryz.f76),(84,Tryz.f84),(86,Tryz.f86),(94,Tryz.f94),(99,Tryz.f99),(100,Tryz.f100),(112,Tryz.f112),(113,Tryz.f113),(143,Tryz.f143),(144,Tryz.f144),(145,Tryz.f145),(146,Tryz.f146),(147,Tryz.f147),(148,Tryz.f148),(149,Tryz.f149),(150,Tryz.f150),(151,Tryz.f151),(152,Tryz.f152),(153,Tryz.f153),(154,Tryz.f154),(155,Tryz.f155),(156,Tryz.f156),(173,Tryz.f173),(202,Tryz.f202),(226,Tryz.f226),(227,Tryz.f227),(228,Tryz.f228),(229,Tryz.f229),(230,Tryz.f230),(231,Tryz.f231),(291,Tryz.f291),(292,Tryz.f292)],fuel:=70,vary:=true,tot:=[(143,[4]),(145,[4]),(155,[3,11]),(229,[4])] }
def c76_a0:tysDen [yG]:=(([],[],[],()),())
noncomputable def c76_r0:tysDen [.str,.int .i64]:=(rootH,(0:Int),())
theorem c76_run0:runF c76_env 76 Tryz.f76 c76_code [yG] [.str,.int .i64] c76_a0 = some c76_r0:=by kernel_rfl
noncomputable def c76 (b0:Ty.den (yG)):Option (tysDen [.str,.int .i64]):=(fun x:tysDen [yG]=>bif tysDeq [yG] x c76_a0 then some c76_r0 else none) (b0,())
noncomputable def c76_spec:PSpec:={ args:=[yG],res:=[.str,.int .i64],fn:=fun x=>c76 x.1 }
theorem c76_enter:zQ 76:=zN Tryz.func76
theorem c76_envOK:zE c76_env:=zO cfg_ok ⟨⟨f157_pure,f157_enter⟩,⟨c74_pure,c74_enter⟩,trivial⟩ trivial ⟨zK Tryz.func76,zK Tryz.func84,zK Tryz.func86,zK Tryz.func94,zK Tryz.func99,zK Tryz.func100,zK Tryz.func112,zK Tryz.func113,zK Tryz.func143,zK Tryz.func144,zK Tryz.func145,zK Tryz.func146,zK Tryz.func147,zK Tryz.func148,zK Tryz.func149,zK Tryz.func150,zK Tryz.func151,zK Tryz.func152,zK Tryz.func153,zK Tryz.func154,zK Tryz.func155,zK Tryz.func156,zK Tryz.func173,zK Tryz.func202,zK Tryz.func226,zK Tryz.func227,zK Tryz.func228,zK Tryz.func229,zK Tryz.func230,zK Tryz.func231,zK Tryz.func291,zK Tryz.func292,trivial⟩ trivial
theorem c76_pure:PureOK Tryz.prog cfg 76 c76_spec:=pure_of_run c76_envOK (fn:=Tryz.f76) (c:=c76_code) rfl rfl c76_spec (fun x y h=>by
 simp only [c76_spec,c76] at h
 change (bif tysDeq [yG] x c76_a0 then some c76_r0 else none) = _ at h
 cases h0:tysDeq [yG] x c76_a0
 case true =>
  rw [h0,cond_true] at h
  cases h
  rw [tysDeq_eq h0]
  exact c76_run0
 rw [h0,cond_false] at h
 cases h)
end Go.V.G
namespace Go.V.G
open Go.Proofs
noncomputable section
def f95 (a0:ByteArray):Option (ByteArray × Unit) :=
 (f159 ([a0]:List ByteArray) (⟨#[]⟩:ByteArray)).bind fun y1 =>
 bif (catOk (⟨#[0]⟩:ByteArray) y1.1) then
 (f97 ((⟨#[0]⟩:ByteArray)++y1.1)).bind fun y2 =>
 some (y2.1,())
 else none
def f95_spec:PSpec:={ args:=[.str],res:=[.str],fn:=fun x=>f95 x.1 }
noncomputable def f95_code:Code:=Tryz.f95.body.getD .skip
noncomputable def f95_env:Env0:={ C:=cfgF,P:=[(97,f97_spec),(159,f159_spec)],L:=[],F:=[(95,Tryz.f95),(114,Tryz.f114),(158,Tryz.f158)] }
theorem f95_run:zR f95_env 95 Tryz.f95 f95_code f95_spec:=by intro x; kernel_rfl
theorem f95_enter:zQ 95:=zN Tryz.func95
theorem f95_envOK:zE f95_env:=zO cfgF_ok ⟨⟨f97_pure,f97_enter⟩,⟨f159_pure,f159_enter⟩,trivial⟩ trivial ⟨zK Tryz.func95,zK Tryz.func114,zK Tryz.func158,trivial⟩ trivial
theorem f95_pure:zU 95 f95_spec:=zP f95_envOK Tryz.f95 f95_code f95_run
def f96 (a0:ByteArray) (a1:ByteArray):Option (ByteArray × Unit) :=
 (f159 ([a0,a1]:List ByteArray) (⟨#[]⟩:ByteArray)).bind fun y1 =>
 bif (catOk (⟨#[1]⟩:ByteArray) y1.1) then
 (f97 ((⟨#[1]⟩:ByteArray)++y1.1)).bind fun y2 =>
 some (y2.1,())
 else none
def f96_spec:PSpec:={ args:=[.str,.str],res:=[.str],fn:=fun x=>f96 x.1 x.2.1 }
noncomputable def f96_code:Code:=Tryz.f96.body.getD .skip
noncomputable def f96_env:Env0:={ C:=cfgF,P:=[(97,f97_spec),(159,f159_spec)],L:=[],F:=[(96,Tryz.f96),(114,Tryz.f114),(158,Tryz.f158)] }
theorem f96_run:zR f96_env 96 Tryz.f96 f96_code f96_spec:=by intro x; kernel_rfl
theorem f96_enter:zQ 96:=zN Tryz.func96
theorem f96_envOK:zE f96_env:=zO cfgF_ok ⟨⟨f97_pure,f97_enter⟩,⟨f159_pure,f159_enter⟩,trivial⟩ trivial ⟨zK Tryz.func96,zK Tryz.func114,zK Tryz.func158,trivial⟩ trivial
theorem f96_pure:zU 96 f96_spec:=zP f96_envOK Tryz.f96 f96_code f96_run
def f77_l8_head:Ann:={ env:=[(3,.cst (.row 21 .whole)),(4,.cst (.row 24 .whole)),(7,YI),(11,.ty (.sl .str)),(12,YI),(13,YI)],bxs:=[(21,.row .str false),(24,.row yI false)] }
def f77_l8_outs:List (Ex × Ann):=[((.exit 2),{ env:=[(3,.cst (.row 21 .whole)),(4,.cst (.row 24 .whole)),(11,.ty (.sl .str)),(12,YI),(13,YI)],bxs:=[(21,.row .str false),(24,.row yI false)] })]
def f77_l8 (t11:(List ByteArray)) (t12:Int) (t13:Int):Nat→Int→(List ByteArray)→(List Int)→Option (outDen f77_l8_outs)
 | 0,_,_,_=>none
 | k + 1,t7,r21,r24 =>
 bif (decide (t7 > (1:Int))) then
 bif (inR (IntKind.wrap .i64 (t7 - (2:Int))) r24.length) then
 let v3:Int:=(at_ yI r24 (IntKind.wrap .i64 (t7 - (2:Int))))
 bif (inR (IntKind.wrap .i64 (t7 - (1:Int))) r24.length) then
 let v4:Int:=(at_ yI r24 (IntKind.wrap .i64 (t7 - (1:Int))))
 bif (decide (v3 = v4)) then
 bif (cutOk r21.length none (some (IntKind.wrap .i64 (t7 - (2:Int))))) then
 bif (inR (IntKind.wrap .i64 (t7 - (2:Int))) r21.length) then
 let v5:ByteArray:=(at_ .str r21 (IntKind.wrap .i64 (t7 - (2:Int))))
 bif (inR (IntKind.wrap .i64 (t7 - (1:Int))) r21.length) then
 let v6:ByteArray:=(at_ .str r21 (IntKind.wrap .i64 (t7 - (1:Int))))
 (f96 v5 v6).bind fun y7 =>
 bif (decide (((r21.drop 0).take (cutLen r21.length none (some (IntKind.wrap .i64 (t7 - (2:Int)))))).length + ([y7.1]:List ByteArray).length≤appLim)) then
 bif (cutOk r24.length none (some (IntKind.wrap .i64 (t7 - (2:Int))))) then
 bif (inR (IntKind.wrap .i64 (t7 - (1:Int))) r24.length) then
 let v8:Int:=(at_ yI r24 (IntKind.wrap .i64 (t7 - (1:Int))))
 bif (decide (((r24.drop 0).take (cutLen r24.length none (some (IntKind.wrap .i64 (t7 - (2:Int)))))).length + ([(IntKind.wrap .i64 ((2:Int) * v8))]:List Int).length≤appLim)) then f77_l8 t11 t12 t13 k (IntKind.wrap .i64 (t7 - (1:Int))) (((r21.drop 0).take (cutLen r21.length none (some (IntKind.wrap .i64 (t7 - (2:Int))))))++([y7.1]:List ByteArray)) (((r24.drop 0).take (cutLen r24.length none (some (IntKind.wrap .i64 (t7 - (2:Int))))))++([(IntKind.wrap .i64 ((2:Int) * v8))]:List Int)) else none
 else none
 else none
 else none
 else none
 else none
 else none
 else
 some ((t11,t12,t13,()),(),(r21,r24,()))
 else none
 else none
 else
 some ((t11,t12,t13,()),(),(r21,r24,()))
def f77_l8_n (n:Nat) (x:f77_l8_head.den):=f77_l8 x.1.2.1 x.1.2.2.1 x.1.2.2.2.1 n x.1.1 x.2.2.1 x.2.2.2.1
def f77_l8_spec:LSpec:={ head:=f77_l8_head,outs:=f77_l8_outs,fn:=fun x=>f77_l8_n (x.1.1.toNat + 1) x }
def f77_l4_head:Ann:={ env:=[(3,.cst (.row 21 .whole)),(4,.cst (.row 24 .whole)),(11,.ty (.sl .str)),(12,YI),(13,YI)],bxs:=[(21,.row .str false),(24,.row yI false)] }
def f77_l4_outs:List (Ex × Ann):=[((.exit 0),{ env:=[(3,.cst (.row 21 .whole))],bxs:=[(21,.row .str false)] })]
def f77_l4:Nat→(List ByteArray)→Int→Int→(List ByteArray)→(List Int)→Option (outDen f77_l4_outs)
 | 0,_,_,_,_,_=>none
 | k + 1,t11,t12,t13,r21,r24 =>
 bif (decide (t13 < t12)) then
 bif (inR t13 t11.length) then
 (f95 (at_ .str t11 t13)).bind fun y1 =>
 bif (decide (r21.length + ([y1.1]:List ByteArray).length≤appLim)) then
 bif (decide (r24.length + ([(1:Int)]:List Int).length≤appLim)) then
 let v2:Int:=((r24++([(1:Int)]:List Int)).length:Int)
 (f77_l8 t11 t12 t13 (v2.toNat + 1) v2 (r21++([y1.1]:List ByteArray)) (r24++([(1:Int)]:List Int))).bind fun o9 =>
 let u10:(List ByteArray):=o9.1.1
 let u11:Int:=o9.1.2.1
 let u12:Int:=o9.1.2.2.1
 let u13:(List ByteArray):=o9.2.2.1
 let u14:(List Int):=o9.2.2.2.1
 f77_l4 k u10 u11 (IntKind.wrap .i64 (u12 + 1)) u13 u14
 else none
 else none
 else none
 else
 some ((),(),(r21,()))
def f77_l4_n (n:Nat) (x:f77_l4_head.den):=f77_l4 n x.1.1 x.1.2.1 x.1.2.2.1 x.2.2.1 x.2.2.2.1
def f77_l4_spec:LSpec:={ thaws:=[.slot 3 21 .str,.slot 4 24 yI],head:=f77_l4_head,outs:=f77_l4_outs,fn:=fun x=>f77_l4_n ((x.1.2.1 - x.1.2.2.1).toNat + 1) x }
def f118_l1x_head:Ann:={ env:=[(0,.cst (.yld 917)),(1,cP 89001),(3,YI)],stk:=[[(0,.cst (.yld 917))],[(8,cP 8)]],bxs:=[(917,.loop false 77 17 [(8,cP 8)]),(89001,.var [.dyn (.win 21)]),(8,.var [.ty .str]),(21,.row .str false)] }
def f118_l1x_outs:List (Ex × Ann):=[((.exit 0),{ env:=[],stk:=[[(0,.cst (.yld 917))],[(8,cP 8)]],bxs:=[(917,.loop false 77 17 [(8,cP 8)]),(8,.var [.ty .str])] })]
def f118_l1x (b89001g0:Nat) (r21:(List ByteArray)):Nat→Int→ByteArray→Option (outDen f118_l1x_outs)
 | 0,_,_=>none
 | k + 1,t3,b8g0 =>
 bif (decide (t3 ≥ (0:Int))) then
 bif (inR t3 b89001g0) then
 (f96 (at_ .str r21 (0 + t3)) b8g0).bind fun y22 =>
 f118_l1x b89001g0 r21 k (IntKind.wrap .i64 (t3 - (1:Int))) y22.1
 else none
 else
 some ((),((),(),()),((),(b8g0,()),()))
def f118_l1x_n (n:Nat) (x:f118_l1x_head.den):=f118_l1x x.2.2.2.1.1 x.2.2.2.2.2.1 n x.1.1 x.2.2.2.2.1.1
def f118_l1x_spec:LSpec:={ head:=f118_l1x_head,outs:=f118_l1x_outs,fn:=fun x=>f118_l1x_n ((x.1.1 + 1).toNat + 1) x }
def f77 (a0:(List ByteArray)):Option (ByteArray × Unit) :=
 (f77_l4 (((a0.length:Int) - (0:Int)).toNat + 1) a0 (a0.length:Int) (0:Int) [] []).bind fun o15 =>
 let u16:(List ByteArray):=o15.2.2.1
 let v17:Bool:=(decide ((u16.length:Int) = (0:Int)))
 bif v17 then
 (f97 (⟨#[]⟩:ByteArray)).bind fun y18 =>
 some (y18.1,())
 else
 let v19:Int:=(IntKind.wrap .i64 ((u16.length:Int) - (1:Int)))
 bif (inR v19 u16.length) then
 let v20:Int:=(IntKind.wrap .i64 ((u16.length:Int) - (1:Int)))
 bif (cutOk u16.length none (some v20)) then
 let v21:Int:=(((u16.drop 0).take (cutLen u16.length none (some v20))).length:Int)
 (f118_l1x (cutLen u16.length none (some v20)) u16 (((IntKind.wrap .i64 (v21 - (1:Int))) + 1).toNat + 1) (IntKind.wrap .i64 (v21 - (1:Int))) (at_ .str u16 v19)).bind fun o23 =>
 let u24:ByteArray:=o23.2.2.2.1.1
 some (u24,())
 else none
 else none
def f77_spec:PSpec:={ args:=[(.sl .str)],res:=[.str],fn:=fun x=>f77 x.1 }
noncomputable def f77_code:Code:=Tryz.f77.body.getD .skip
noncomputable def f77_code_118:Code:=Tryz.f118.body.getD .skip
noncomputable def f77_env:Env0:={ C:=cfgF,P:=[(95,f95_spec),(96,f96_spec),(97,f97_spec)],L:=[(⟨12,0,77,8⟩,f77_l8_spec),(⟨12,0,77,4⟩,f77_l4_spec),(⟨11,917000,118,1⟩,f118_l1x_spec)],F:=[(77,Tryz.f77),(98,Tryz.f98),(118,Tryz.f118)] }
theorem f77_l8_ok:LoopOK f77_env 12 77 0 (loopAt f77_code 8) f77_l8_spec :=
 loopOK_of (by kernel_rfl) f77_l8_n (fun x o h=>⟨_,h⟩) (fun x=>by kernel_rfl) (fun n x=>by kernel_rfl)
theorem f77_l4_ok:LoopOK f77_env 12 77 0 (loopAt f77_code 4) f77_l4_spec :=
 loopOK_of (by kernel_rfl) f77_l4_n (fun x o h=>⟨_,h⟩) (fun x=>by kernel_rfl) (fun n x=>by kernel_rfl)
theorem f118_l1x_ok:LoopOK f77_env 11 118 917000 (loopAt f77_code_118 1) f118_l1x_spec :=
 loopOK_of (by kernel_rfl) f118_l1x_n (fun x o h=>⟨_,h⟩) (fun x=>by kernel_rfl) (fun n x=>by kernel_rfl)
theorem f77_run:zR f77_env 77 Tryz.f77 f77_code f77_spec:=by intro x; kernel_rfl
theorem f77_enter:zQ 77:=zN Tryz.func77
theorem f77_envOK:zE f77_env:=zO cfgF_ok ⟨⟨f95_pure,f95_enter⟩,⟨f96_pure,f96_enter⟩,⟨f97_pure,f97_enter⟩,trivial⟩ trivial ⟨zK Tryz.func77,zK Tryz.func98,zK Tryz.func118,trivial⟩ ⟨⟨Tryz.f77,f77_code,rfl,rfl,f77_l8_ok⟩,⟨Tryz.f77,f77_code,rfl,rfl,f77_l4_ok⟩,⟨Tryz.f118,f77_code_118,rfl,rfl,f118_l1x_ok⟩,trivial⟩
theorem f77_pure:zU 77 f77_spec:=zP f77_envOK Tryz.f77 f77_code f77_run
def f33 (a0:((List Yv) × ((List Yd) × ((List Int) × Unit)))) (a1:Yc):Option (ByteArray × Int × Unit) :=
 (c76 a0).bind fun y1 =>
 (f31 a1).bind fun y2 =>
 bif (decide (y1.2.1 ≠ (0:Int))) then
 some ((⟨#[]⟩:ByteArray),(160:Int),())
 else
 bif (decide (y2.2.1 ≠ (0:Int))) then
 some ((⟨#[]⟩:ByteArray),(160:Int),())
 else
 bif (cutOk 8 (some (1:Int)) none) then
 bif (decide (([y1.1]:List ByteArray).length + ((y2.1.drop (Int.toNat (1:Int))).take (cutLen 8 (some (1:Int)) none)).length≤appLim)) then
 (f77 (([y1.1]:List ByteArray)++((y2.1.drop (Int.toNat (1:Int))).take (cutLen 8 (some (1:Int)) none)))).bind fun y3 =>
 some (y3.1,(0:Int),())
 else none
 else none
def f33_spec:PSpec:={ args:=[yG,yC],res:=[.str,yI],fn:=fun x=>f33 x.1 x.2.1 }
noncomputable def f33_code:Code:=Tryz.f33.body.getD .skip
noncomputable def f33_env:Env0:={ C:=cfgF,P:=[(31,f31_spec),(76,c76_spec),(77,f77_spec)],L:=[],F:=[(33,Tryz.f33)] }
theorem f33_run:zR f33_env 33 Tryz.f33 f33_code f33_spec:=by intro x; kernel_rfl
theorem f33_enter:zQ 33:=zN Tryz.func33
theorem f33_envOK:zE f33_env:=zO cfgF_ok ⟨⟨f31_pure,f31_enter⟩,⟨c76_pure,c76_enter⟩,⟨f77_pure,f77_enter⟩,trivial⟩ trivial ⟨zK Tryz.func33,trivial⟩ trivial
theorem f33_pure:zU 33 f33_spec:=zP f33_envOK Tryz.f33 f33_code f33_run
end
end Go.V.G
namespace Go.V.G
open Go.Proofs
def g77_l8 (L:ByteArray→Option (ByteArray × Unit)) (N:ByteArray→ByteArray→Option (ByteArray × Unit)) (t11:(List ByteArray)) (t12:Int) (t13:Int):Nat→Int→(List ByteArray)→(List Int)→Option (outDen f77_l8_outs)
 | 0,_,_,_=>none
 | k + 1,t7,r21,r24 =>
  bif (decide (t7 > (1:Int))) then
   bif (inR (IntKind.wrap .i64 (t7 - (2:Int))) r24.length) then
    let v3:Int:=(at_ yI r24 (IntKind.wrap .i64 (t7 - (2:Int))))
    bif (inR (IntKind.wrap .i64 (t7 - (1:Int))) r24.length) then
     let v4:Int:=(at_ yI r24 (IntKind.wrap .i64 (t7 - (1:Int))))
     bif (decide (v3 = v4)) then
      bif (cutOk r21.length none (some (IntKind.wrap .i64 (t7 - (2:Int))))) then
       bif (inR (IntKind.wrap .i64 (t7 - (2:Int))) r21.length) then
        let v5:ByteArray:=(at_ .str r21 (IntKind.wrap .i64 (t7 - (2:Int))))
        bif (inR (IntKind.wrap .i64 (t7 - (1:Int))) r21.length) then
         let v6:ByteArray:=(at_ .str r21 (IntKind.wrap .i64 (t7 - (1:Int))))
         (N v5 v6).bind fun y7 =>
         bif (decide (((r21.drop 0).take (cutLen r21.length none (some (IntKind.wrap .i64 (t7 - (2:Int)))))).length + ([y7.1]:List ByteArray).length≤appLim)) then
          bif (cutOk r24.length none (some (IntKind.wrap .i64 (t7 - (2:Int))))) then
           bif (inR (IntKind.wrap .i64 (t7 - (1:Int))) r24.length) then
            let v8:Int:=(at_ yI r24 (IntKind.wrap .i64 (t7 - (1:Int))))
            bif (decide (((r24.drop 0).take (cutLen r24.length none (some (IntKind.wrap .i64 (t7 - (2:Int)))))).length + ([(IntKind.wrap .i64 ((2:Int) * v8))]:List Int).length≤appLim)) then g77_l8 L N t11 t12 t13 k (IntKind.wrap .i64 (t7 - (1:Int))) (((r21.drop 0).take (cutLen r21.length none (some (IntKind.wrap .i64 (t7 - (2:Int))))))++([y7.1]:List ByteArray)) (((r24.drop 0).take (cutLen r24.length none (some (IntKind.wrap .i64 (t7 - (2:Int))))))++([(IntKind.wrap .i64 ((2:Int) * v8))]:List Int)) else none
           else none
          else none
         else none
        else none
       else none
      else none
     else
      some ((t11,t12,t13,()),(),(r21,r24,()))
    else none
   else none
  else
   some ((t11,t12,t13,()),(),(r21,r24,()))
def g77_l4 (L:ByteArray→Option (ByteArray × Unit)) (N:ByteArray→ByteArray→Option (ByteArray × Unit)):Nat→(List ByteArray)→Int→Int→(List ByteArray)→(List Int)→Option (outDen f77_l4_outs)
 | 0,_,_,_,_,_=>none
 | k + 1,t11,t12,t13,r21,r24 =>
  bif (decide (t13 < t12)) then
   bif (inR t13 t11.length) then
    (L (at_ .str t11 t13)).bind fun y1 =>
    bif (decide (r21.length + ([y1.1]:List ByteArray).length≤appLim)) then
     bif (decide (r24.length + ([(1:Int)]:List Int).length≤appLim)) then
      let v2:Int:=((r24++([(1:Int)]:List Int)).length:Int)
      (g77_l8 L N t11 t12 t13 (v2.toNat + 1) v2 (r21++([y1.1]:List ByteArray)) (r24++([(1:Int)]:List Int))).bind fun o9 =>
      let u10:(List ByteArray):=o9.1.1
      let u11:Int:=o9.1.2.1
      let u12:Int:=o9.1.2.2.1
      let u13:(List ByteArray):=o9.2.2.1
      let u14:(List Int):=o9.2.2.2.1
      g77_l4 L N k u10 u11 (IntKind.wrap .i64 (u12 + (1:Int))) u13 u14
     else none
    else none
   else none
  else
   some ((),(),(r21,()))
def g118_l1_b917000 (L:ByteArray→Option (ByteArray × Unit)) (N:ByteArray→ByteArray→Option (ByteArray × Unit)) (b89001g0:Nat) (r21:(List ByteArray)):Nat→Int→ByteArray→Option (outDen f118_l1x_outs)
 | 0,_,_=>none
 | k + 1,t3,b8g0 =>
  bif (decide (t3 ≥ (0:Int))) then
   bif (inR t3 b89001g0) then
    (N (at_ .str r21 (0 + t3)) b8g0).bind fun y22 =>
    g118_l1_b917000 L N b89001g0 r21 k (IntKind.wrap .i64 (t3 - (1:Int))) y22.1
   else none
  else
   some ((),((),(),()),((),(b8g0,()),()))
def g77 (L:ByteArray→Option (ByteArray × Unit)) (N:ByteArray→ByteArray→Option (ByteArray × Unit)) (a0:(List ByteArray)):Option (ByteArray × Unit) :=
 (g77_l4 L N (((a0.length:Int) - (0:Int)).toNat + 1) a0 (a0.length:Int) (0:Int) [] []).bind fun o15 =>
 let u16:(List ByteArray):=o15.2.2.1
 let v17:Bool:=(decide ((u16.length:Int) = (0:Int)))
 bif v17 then
  (f97 (⟨#[]⟩:ByteArray)).bind fun y18 =>
  some (y18.1,())
 else
  let v19:Int:=(IntKind.wrap .i64 ((u16.length:Int) - (1:Int)))
  bif (inR v19 u16.length) then
   let v20:Int:=(IntKind.wrap .i64 ((u16.length:Int) - (1:Int)))
   bif (cutOk u16.length none (some v20)) then
    let v21:Int:=(((u16.drop 0).take (cutLen u16.length none (some v20))).length:Int)
    (g118_l1_b917000 L N (cutLen u16.length none (some v20)) u16 (((IntKind.wrap .i64 (v21 - (1:Int))) + 1).toNat + 1) (IntKind.wrap .i64 (v21 - (1:Int))) (at_ .str u16 v19)).bind fun o23 =>
    let u24:ByteArray:=o23.2.2.2.1.1
    some (u24,())
   else none
  else none
theorem g77_eq:f77 = g77 f95 f96:=by kernel_rfl
def pad32 (b:ByteArray):ByteArray:=⟨((List.range 32).map (fun i=>b.data.toList.getD i 0)).toArray⟩
theorem pad32_eq (b:ByteArray) (h:b.size = 32):pad32 b = b:=by
 have hl:b.data.toList.length = 32:=h
 unfold pad32
 apply ByteArray.ext
 apply Array.toList_inj.1
 show (List.range 32).map (fun i=>b.data.toList.getD i 0) = b.data.toList
 apply List.ext_getElem
 ·simp [hl]
 ·intro i h1 h2
  simp only [List.getElem_map,List.getElem_range]
  rw [List.getD_eq_getElem?_getD,List.getElem?_eq_getElem h2]
  rfl
theorem pad32_size (b:ByteArray):(pad32 b).size = 32:=by kernel_rfl
def Lc (lf:ByteArray→ByteArray) (F:ByteArray→Option (ByteArray × Unit)) (s:ByteArray):Option (ByteArray × Unit):=bif Nat.beq s.size 32 then some (pad32 (lf s),()) else F s
def Nc (nd:ByteArray→ByteArray→ByteArray) (F:ByteArray→ByteArray→Option (ByteArray × Unit)) (a b:ByteArray):Option (ByteArray × Unit):=bif Nat.beq a.size 32 && Nat.beq b.size 32 then some (pad32 (nd a b),()) else F a b
theorem g77_run (lf:ByteArray→ByteArray) (nd:ByteArray→ByteArray→ByteArray) (F:ByteArray→Option (ByteArray × Unit)) (G:ByteArray→ByteArray→Option (ByteArray × Unit)) (a b c d e f g h:ByteArray) :
  g77 (Lc lf F) (Nc nd G) [pad32 a,pad32 b,pad32 c,pad32 d,pad32 e,pad32 f,pad32 g,pad32 h] =
   some (pad32 (nd (pad32 (nd (pad32 (nd (pad32 (lf (pad32 a))) (pad32 (lf (pad32 b))))) (pad32 (nd (pad32 (lf (pad32 c))) (pad32 (lf (pad32 d))))))) (pad32 (nd (pad32 (nd (pad32 (lf (pad32 e))) (pad32 (lf (pad32 f))))) (pad32 (nd (pad32 (lf (pad32 g))) (pad32 (lf (pad32 h)))))))),()):=by kernel_rfl
end Go.V.G
namespace Go.V.G
open Go.Proofs
open Go.V.K
theorem join_one (s:ByteArray) (h:s.size = 32):∃ r,f159 [s] ⟨#[]⟩ = some (r,())∧r.size = 32:=by
 have e:Lib.join ([s].map (·.data.toList)) (⟨#[]⟩:ByteArray).data.toList = s.data.toList:=by simp [Lib.join]
 have hl:s.data.toList.length = 32:=h
 refine ⟨joinS [s] ⟨#[]⟩,?_,?_⟩
 ·unfold f159
  rw [e,hl]
  rfl
 ·show (Lib.join ([s].map (·.data.toList)) (⟨#[]⟩:ByteArray).data.toList).toArray.size = 32
  rw [e,List.size_toArray,hl]
theorem join_two (a b:ByteArray) (h:a.size = 32) (h':b.size = 32):∃ r,f159 [a,b] ⟨#[]⟩ = some (r,())∧r.size = 64:=by
 have e:Lib.join ([a,b].map (·.data.toList)) (⟨#[]⟩:ByteArray).data.toList = a.data.toList++b.data.toList:=by simp [Lib.join]
 have hl:(a.data.toList++b.data.toList).length = 64:=by
  rw [List.length_append]
  have h1:a.data.toList.length = 32:=h
  have h2:b.data.toList.length = 32:=h'
  omega
 refine ⟨joinS [a,b] ⟨#[]⟩,?_,?_⟩
 ·unfold f159
  rw [e,hl]
  rfl
 ·show (Lib.join ([a,b].map (·.data.toList)) (⟨#[]⟩:ByteArray).data.toList).toArray.size = 64
  rw [e,List.size_toArray,hl]
theorem sha32 (s:ByteArray) (hs:s.size≤1000000):∃ r,f97 s = some (r,())∧r.size = 32:=⟨_,(TR.sha_spec s hs).1,(TR.sha_spec s hs).2.2⟩
theorem f95_32 (s:ByteArray) (h:s.size = 32):∃ r,f95 s = some (r,())∧r.size = 32:=by
 obtain ⟨t,h1,h2⟩:=join_one s h
 have h3:((⟨#[0]⟩:ByteArray)++t).size = 33:=by rw [ByteArray.size_append,h2]; rfl
 obtain ⟨r,h4,h5⟩:=sha32 ((⟨#[0]⟩:ByteArray)++t) (by omega)
 refine ⟨r,?_,h5⟩
 unfold f95
 refine bind_step h1 ?_
 show (bif catOk (⟨#[0]⟩:ByteArray) t then _ else none) = _
 rw [TR.catOk_of (by rw [h2]; decide),cond_true]
 exact bind_step h4 rfl
theorem f96_32 (a b:ByteArray) (h:a.size = 32) (h':b.size = 32):∃ r,f96 a b = some (r,())∧r.size = 32:=by
 obtain ⟨t,h1,h2⟩:=join_two a b h h'
 have h3:((⟨#[1]⟩:ByteArray)++t).size = 65:=by rw [ByteArray.size_append,h2]; rfl
 obtain ⟨r,h4,h5⟩:=sha32 ((⟨#[1]⟩:ByteArray)++t) (by omega)
 refine ⟨r,?_,h5⟩
 unfold f96
 refine bind_step h1 ?_
 show (bif catOk (⟨#[1]⟩:ByteArray) t then _ else none) = _
 rw [TR.catOk_of (by rw [h2]; decide),cond_true]
 exact bind_step h4 rfl
noncomputable def lf (s:ByteArray):ByteArray:=match f95 s with | some y=>y.1 | none=>⟨#[]⟩
noncomputable def nd (a b:ByteArray):ByteArray:=match f96 a b with | some y=>y.1 | none=>⟨#[]⟩
theorem f95_L:f95 = Lc lf f95:=by
 funext s
 unfold Lc
 cases hb:Nat.beq s.size 32 with
 | true =>
  obtain ⟨r,h1,h2⟩:=f95_32 s (Nat.eq_of_beq_eq_true hb)
  have e:lf s = r:=by unfold lf; rw [h1]
  rw [cond_true,e,pad32_eq r h2,h1]
 | false=>rfl
theorem f96_N:f96 = Nc nd f96:=by
 funext a b
 unfold Nc
 cases hb:Nat.beq a.size 32 && Nat.beq b.size 32 with
 | true =>
  rw [Bool.and_eq_true] at hb
  obtain ⟨r,h1,h2⟩:=f96_32 a b (Nat.eq_of_beq_eq_true hb.1) (Nat.eq_of_beq_eq_true hb.2)
  have e:nd a b = r:=by unfold nd; rw [h1]
  rw [cond_true,e,pad32_eq r h2,h1]
 | false=>rfl
theorem f77_32 (a b c d e f g h:ByteArray) (ha:a.size = 32) (hb:b.size = 32) (hc:c.size = 32) (hd:d.size = 32) (he:e.size = 32) (hf:f.size = 32) (hg:g.size = 32) (hh:h.size = 32) :
  ∃ r,f77 [a,b,c,d,e,f,g,h] = some (r,())∧r.size = 32:=by
 have h0:=g77_run lf nd f95 f96 a b c d e f g h
 rw [← f95_L,← f96_N,← g77_eq,pad32_eq a ha,pad32_eq b hb,pad32_eq c hc,pad32_eq d hd,pad32_eq e he,pad32_eq f hf,pad32_eq g hg,pad32_eq h hh] at h0
 exact ⟨_,h0,pad32_size _⟩
def CA:Ct:=([[],[((1:Int),[1,0,-1],())],[],[],[],[],[],[]],())
def ent1:List Ye:=[((1:Int),(⟨#[6,2,0,1]⟩:ByteArray),())]
theorem ent1_valid:TR.Valid ent1:=⟨by simp [ent1],by simp [ent1]; decide,by simp [ent1]⟩
theorem D_nil:∀ (h:Nat) (low:Int),TR.D [] h low = TR.zeroD
 | 0,low=>by simp [TR.D,TR.leafD,TR.atK]
 | h + 1,low=>by simp [TR.D,TR.joinD,D_nil h]
theorem f74_nil:f74 [] = some (TR.zeroD,(0:Int),()):=by
 have h:TR.Valid []:=⟨by simp,by simp,by simp⟩
 have h1:=TR.f13_eq h
 rw [h1]
 unfold TR.rootD
 rw [D_nil]
noncomputable def R1:ByteArray:=TR.rootD ent1
theorem f74_ent:f74 ent1 = some (R1,(0:Int),()):=TR.f13_eq ent1_valid
theorem R1_size:R1.size = 32:=TR.D_size (fun e he=>(ent1_valid.val e he).2) _ _
theorem CA_sm:smC CA:=by simp [smC,smR,CA]
theorem CA_valid:validC CA = true:=by kernel_rfl
theorem f35_CA:f35 CA = some (true,()):=by rw [f35_eq CA CA_sm,CA_valid]
theorem f73_CA1:f73 CA 1 = some (ent1,(0:Int),()):=by
 unfold f73
 refine bind_step f35_CA ?_
 kernel_rfl
theorem f73_CA2:f73 CA 2 = some ([],(0:Int),()):=by
 unfold f73
 refine bind_step f35_CA ?_
 kernel_rfl
theorem f73_CA3:f73 CA 3 = some ([],(0:Int),()):=by
 unfold f73
 refine bind_step f35_CA ?_
 kernel_rfl
theorem f73_CA4:f73 CA 4 = some ([],(0:Int),()):=by
 unfold f73
 refine bind_step f35_CA ?_
 kernel_rfl
theorem f73_CA5:f73 CA 5 = some ([],(0:Int),()):=by
 unfold f73
 refine bind_step f35_CA ?_
 kernel_rfl
theorem f73_CA6:f73 CA 6 = some ([],(0:Int),()):=by
 unfold f73
 refine bind_step f35_CA ?_
 kernel_rfl
theorem f73_CA7:f73 CA 7 = some ([],(0:Int),()):=by
 unfold f73
 refine bind_step f35_CA ?_
 kernel_rfl
theorem f31_r (q:Int) (h1:decide (q≤7) = true) (h2:inR q 8 = true) (l:List Ye) (r:ByteArray) (h3:f73 (CA.1,()) q = some (l,(0:Int),())) (h4:f74 l = some (r,(0:Int),())) (k:Nat) (z b:List ByteArray) :
  f31_l5 CA.1 z (k + 1) q b = f31_l5 CA.1 z k (IntKind.wrap .i64 (q + 1)) (b.set q.toNat r):=by
 conv=>lhs; unfold f31_l5
 rw [h1,cond_true,h3,Option.bind_some,h4,Option.bind_some,h2,cond_true]
theorem f31_end (k:Nat) (z b:List ByteArray):f31_l5 CA.1 z (k + 1) 8 b = some ((),(),((z,()),(b,()),())):=by
 conv=>lhs; unfold f31_l5
 rfl
theorem f31_all (R Z:ByteArray) (h1:f74 ent1 = some (R,(0:Int),())) (h2:f74 [] = some (Z,(0:Int),())) (z:List ByteArray) :
  f31_l5 CA.1 z 8 1 [⟨#[]⟩,⟨#[]⟩,⟨#[]⟩,⟨#[]⟩,⟨#[]⟩,⟨#[]⟩,⟨#[]⟩,⟨#[]⟩] = some ((),(),((z,()),([(⟨#[]⟩:ByteArray),R,Z,Z,Z,Z,Z,Z],()),())):=by
 have w:∀ q:Nat,q < 8→IntKind.wrap .i64 ((q:Int) + 1) = ((q + 1:Nat):Int):=fun q h=>wS q (by omega)
 have w1:IntKind.wrap .i64 ((1:Int) + 1) = 2:=w 1 (by decide)
 have w2:IntKind.wrap .i64 ((2:Int) + 1) = 3:=w 2 (by decide)
 have w3:IntKind.wrap .i64 ((3:Int) + 1) = 4:=w 3 (by decide)
 have w4:IntKind.wrap .i64 ((4:Int) + 1) = 5:=w 4 (by decide)
 have w5:IntKind.wrap .i64 ((5:Int) + 1) = 6:=w 5 (by decide)
 have w6:IntKind.wrap .i64 ((6:Int) + 1) = 7:=w 6 (by decide)
 have w7:IntKind.wrap .i64 ((7:Int) + 1) = 8:=w 7 (by decide)
 rw [f31_r 1 (by decide) (by decide) ent1 R f73_CA1 h1,w1]
 rw [f31_r 2 (by decide) (by decide) [] Z f73_CA2 h2,w2]
 rw [f31_r 3 (by decide) (by decide) [] Z f73_CA3 h2,w3]
 rw [f31_r 4 (by decide) (by decide) [] Z f73_CA4 h2,w4]
 rw [f31_r 5 (by decide) (by decide) [] Z f73_CA5 h2,w5]
 rw [f31_r 6 (by decide) (by decide) [] Z f73_CA6 h2,w6]
 rw [f31_r 7 (by decide) (by decide) [] Z f73_CA7 h2,w7]
 rw [f31_end]
 rfl
theorem f31_CA:f31 CA = some ([(⟨#[]⟩:ByteArray),R1,TR.zeroD,TR.zeroD,TR.zeroD,TR.zeroD,TR.zeroD,TR.zeroD],(0:Int),()):=by
 have h:=f31_all R1 TR.zeroD f74_ent f74_nil (List.replicate 8 (⟨#[]⟩:ByteArray))
 have hr:[(⟨#[]⟩:ByteArray),⟨#[]⟩,⟨#[]⟩,⟨#[]⟩,⟨#[]⟩,⟨#[]⟩,⟨#[]⟩,⟨#[]⟩] = List.replicate 8 (⟨#[]⟩:ByteArray):=rfl
 have hn:((8:Int) - (1:Int)).toNat + 1 = 8:=by decide
 rw [hr] at h
 unfold f31
 rw [f35_CA,Option.bind_some,hn,h]
 rfl
theorem c76_nil:c76 ([],[],[],()) = some (rootH,(0:Int),()):=by kernel_rfl
theorem rootH_size:rootH.size = 32:=(Classical.choose_spec ex_root).2
theorem f33_gen (a0:List Yv × (List Yd × (List Int × Unit))) (a1:Ct) (root e r1 r2 r3 r4 r5 r6 r7 W:ByteArray) (h1:c76 a0 = some (root,(0:Int),())) (h2:f31 a1 = some ([e,r1,r2,r3,r4,r5,r6,r7],(0:Int),())) (h3:f77 [root,r1,r2,r3,r4,r5,r6,r7] = some (W,())):f33 a0 a1 = some (W,(0:Int),()):=by
 have e1:cutLen 8 (some (1:Int)) none = 7:=by decide
 have e2:cutOk 8 (some (1:Int)) none = true:=by decide
 have e3:decide (1 + 7≤appLim) = true:=by decide
 unfold f33
 rw [h1,Option.bind_some,h2,Option.bind_some,e1,e2]
 show (bif decide (1 + 7≤appLim) then (f77 [root,r1,r2,r3,r4,r5,r6,r7]).bind _ else none) = _
 rw [e3,cond_true,h3]
 rfl
theorem f33_CA:∃ r,f33 ([],[],[],()) CA = some (r,(0:Int),())∧r.size = 32:=by
 obtain ⟨r,h1,h2⟩:=f77_32 rootH R1 TR.zeroD TR.zeroD TR.zeroD TR.zeroD TR.zeroD TR.zeroD rootH_size R1_size TR.zero_size TR.zero_size TR.zero_size TR.zero_size TR.zero_size TR.zero_size
 exact ⟨r,f33_gen _ _ _ _ _ _ _ _ _ _ _ _ c76_nil f31_CA h1,h2⟩
end Go.V.G
namespace Go.V.G
open Go.Proofs
def c19_a0:tysDen [(.pair (.sl yR) .unit)]:=(([((1:Int),(0:Int),false,[],true,[0,0,-1],()),((1:Int),(1:Int),true,[1,0,-1],true,[0,1,4],())],()),())
def c19_spec:PSpec:={ args:=[(.pair (.sl yR) .unit)],res:=[.bool],fn:=fun x=>bif tysDeq [(.pair (.sl yR) .unit)] x c19_a0 then some (true,()) else none }
theorem c19_pure:PureOK Tryz.prog cfg 19 c19_spec:=fun fz w args x y hG hf ha hy=>f19_pure fz w args x y hG hf ha (by
 change (bif tysDeq [(.pair (.sl yR) .unit)] x c19_a0 then some (true,()) else none) = some y at hy
 cases h0:tysDeq [(.pair (.sl yR) .unit)] x c19_a0
 case true =>
  rw [h0,cond_true] at hy
  cases hy
  rw [tysDeq_eq h0]
  exact (f19_eq _ (by simp [smD,smRl,K.bf,K.af])).trans (congrArg (fun b=>some (b,())) (by decide))
 rw [h0,cond_false] at hy
 cases hy)
theorem c19_enter:zQ 19:=zN Tryz.func19
noncomputable def c30_code:Code:=Tryz.f30.body.getD .skip
noncomputable def c30_env:Env0:={ C:=cfg,P:=[(90,f90_spec),(19,c19_spec),(45,f45_spec)],L:=[],F:=[(30,Tryz.f30),(47,Tryz.f47),(48,Tryz.f48),(68,Tryz.f68),(70,Tryz.f70),(71,Tryz.f71),(72,Tryz.f72)],fuel:=70,vary:=true,tot:=[(30,[8]),(71,[1])] }
def c30_a0:tysDen [.str,.int .i64]:=((⟨#[120,4,2,0,0,2,6,0,0,1,2,2,2,6,2,0,1,2,6,0,2,8]⟩:ByteArray),(1:Int),())
def c30_r0:tysDen [(.pair (.sl yR) .unit),.int .i64,.int .i64]:=(([((1:Int),(0:Int),false,[],true,[0,0,-1],()),((1:Int),(1:Int),true,[1,0,-1],true,[0,1,4],())],()),(22:Int),(0:Int),())
theorem c30_run0:runF c30_env 30 Tryz.f30 c30_code [.str,.int .i64] [(.pair (.sl yR) .unit),.int .i64,.int .i64] c30_a0 = some c30_r0:=by kernel_rfl
noncomputable def c30 (b0:Ty.den (.str)) (b1:Ty.den yI):Option (tysDen [(.pair (.sl yR) .unit),.int .i64,.int .i64]):=(fun x:tysDen [.str,.int .i64]=>bif tysDeq [.str,.int .i64] x c30_a0 then some c30_r0 else none) (b0,b1,())
noncomputable def c30_spec:PSpec:={ args:=[.str,.int .i64],res:=[(.pair (.sl yR) .unit),.int .i64,.int .i64],fn:=fun x=>c30 x.1 x.2.1 }
theorem c30_enter:zQ 30:=zN Tryz.func30
theorem c30_envOK:zE c30_env:=zO cfg_ok ⟨⟨f90_pure,f90_enter⟩,⟨c19_pure,c19_enter⟩,⟨f45_pure,f45_enter⟩,trivial⟩ trivial ⟨zK Tryz.func30,zK Tryz.func47,zK Tryz.func48,zK Tryz.func68,zK Tryz.func70,zK Tryz.func71,zK Tryz.func72,trivial⟩ trivial
theorem c30_pure:PureOK Tryz.prog cfg 30 c30_spec:=pure_of_run c30_envOK (fn:=Tryz.f30) (c:=c30_code) rfl rfl c30_spec (fun x y h=>by
 simp only [c30_spec,c30] at h
 change (bif tysDeq [.str,.int .i64] x c30_a0 then some c30_r0 else none) = _ at h
 cases h0:tysDeq [.str,.int .i64] x c30_a0
 case true =>
  rw [h0,cond_true] at h
  cases h
  rw [tysDeq_eq h0]
  exact c30_run0
 rw [h0,cond_false] at h
 cases h)
end Go.V.G
namespace Go.V.G
open Go.Proofs
noncomputable def f122_code:Code:=Tryz.f122.body.getD .skip
noncomputable def f122_env:Env0:={ C:=cfg,P:=[],L:=[],F:=[(84,Tryz.f84),(86,Tryz.f86),(99,Tryz.f99),(100,Tryz.f100),(112,Tryz.f112),(122,Tryz.f122),(143,Tryz.f143),(144,Tryz.f144),(145,Tryz.f145),(146,Tryz.f146),(147,Tryz.f147),(148,Tryz.f148),(149,Tryz.f149),(150,Tryz.f150),(151,Tryz.f151),(152,Tryz.f152),(153,Tryz.f153),(154,Tryz.f154),(163,Tryz.f163),(166,Tryz.f166),(173,Tryz.f173),(202,Tryz.f202),(226,Tryz.f226),(227,Tryz.f227),(228,Tryz.f228),(229,Tryz.f229),(230,Tryz.f230),(231,Tryz.f231),(291,Tryz.f291),(292,Tryz.f292)],fuel:=64,vary:=true,tot:=[(143,[4]),(145,[4]),(163,[18,28]),(229,[4])] }
def f122_a0:tysDen [yG]:=(([((3:Int),(0:Int),())],[],[],()),())
def f122_r0:tysDen [(.sl yN),.int .i64]:=([((3:Int),[3,0,-1],())],(0:Int),())
theorem f122_run0:runF f122_env 122 Tryz.f122 f122_code [yG] [(.sl yN),.int .i64] f122_a0 = some f122_r0:=by kernel_rfl
def f122_a1:tysDen [yG]:=(([],[],[(1:Int)],()),())
def f122_r1:tysDen [(.sl yN),.int .i64]:=([],(70:Int),())
theorem f122_run1:runF f122_env 122 Tryz.f122 f122_code [yG] [(.sl yN),.int .i64] f122_a1 = some f122_r1:=by kernel_rfl
def f122_spec:PSpec:={ args:=[yG],res:=[(.sl yN),.int .i64],fn:=fun x=>bif tysDeq [yG] x f122_a0 then some f122_r0 else bif tysDeq [yG] x f122_a1 then some f122_r1 else none }
theorem f122_enter:zQ 122:=zN Tryz.func122
theorem f122_envOK:zE f122_env:=zO cfg_ok trivial trivial ⟨zK Tryz.func84,zK Tryz.func86,zK Tryz.func99,zK Tryz.func100,zK Tryz.func112,zK Tryz.func122,zK Tryz.func143,zK Tryz.func144,zK Tryz.func145,zK Tryz.func146,zK Tryz.func147,zK Tryz.func148,zK Tryz.func149,zK Tryz.func150,zK Tryz.func151,zK Tryz.func152,zK Tryz.func153,zK Tryz.func154,zK Tryz.func163,zK Tryz.func166,zK Tryz.func173,zK Tryz.func202,zK Tryz.func226,zK Tryz.func227,zK Tryz.func228,zK Tryz.func229,zK Tryz.func230,zK Tryz.func231,zK Tryz.func291,zK Tryz.func292,trivial⟩ trivial
theorem f122_pure:PureOK Tryz.prog cfg 122 f122_spec:=pure_of_run f122_envOK (fn:=Tryz.f122) (c:=f122_code) rfl rfl f122_spec (fun x y h=>by
 simp only [f122_spec] at h
 cases h0:tysDeq [yG] x f122_a0
 case true =>
  rw [h0,cond_true] at h
  cases h
  rw [tysDeq_eq h0]
  exact f122_run0
 rw [h0,cond_false] at h
 cases h1:tysDeq [yG] x f122_a1
 case true =>
  rw [h1,cond_true] at h
  cases h
  rw [tysDeq_eq h1]
  exact f122_run1
 rw [h1,cond_false] at h
 cases h)
end Go.V.G
namespace Go.V.G
open Go.Proofs
noncomputable def f125_code:Code:=Tryz.f125.body.getD .skip
noncomputable def f125_env:Env0:={ C:=cfg,P:=[],L:=[],F:=[(54,Tryz.f54),(84,Tryz.f84),(86,Tryz.f86),(99,Tryz.f99),(100,Tryz.f100),(112,Tryz.f112),(125,Tryz.f125),(143,Tryz.f143),(144,Tryz.f144),(145,Tryz.f145),(146,Tryz.f146),(147,Tryz.f147),(148,Tryz.f148),(149,Tryz.f149),(150,Tryz.f150),(151,Tryz.f151),(152,Tryz.f152),(153,Tryz.f153),(154,Tryz.f154),(167,Tryz.f167),(168,Tryz.f168),(169,Tryz.f169),(170,Tryz.f170),(171,Tryz.f171),(172,Tryz.f172),(173,Tryz.f173),(202,Tryz.f202),(226,Tryz.f226),(227,Tryz.f227),(228,Tryz.f228),(229,Tryz.f229),(230,Tryz.f230),(231,Tryz.f231),(236,Tryz.f236),(237,Tryz.f237),(238,Tryz.f238),(239,Tryz.f239),(291,Tryz.f291),(292,Tryz.f292)],fuel:=64,vary:=true,tot:=[(125,[12]),(143,[4]),(145,[4]),(167,[17,19]),(229,[4])] }
def f125_a0:tysDen [yG]:=(([((3:Int),(0:Int),())],[],[],()),())
def f125_r0:tysDen [(.sl yN),.int .i64]:=([((3:Int),[3,0,-1,0,-1,0,0],())],(0:Int),())
theorem f125_run0:runF f125_env 125 Tryz.f125 f125_code [yG] [(.sl yN),.int .i64] f125_a0 = some f125_r0:=by kernel_rfl
def f125_spec:PSpec:={ args:=[yG],res:=[(.sl yN),.int .i64],fn:=fun x=>bif tysDeq [yG] x f125_a0 then some f125_r0 else none }
theorem f125_enter:zQ 125:=zN Tryz.func125
theorem f125_envOK:zE f125_env:=zO cfg_ok trivial trivial ⟨zK Tryz.func54,zK Tryz.func84,zK Tryz.func86,zK Tryz.func99,zK Tryz.func100,zK Tryz.func112,zK Tryz.func125,zK Tryz.func143,zK Tryz.func144,zK Tryz.func145,zK Tryz.func146,zK Tryz.func147,zK Tryz.func148,zK Tryz.func149,zK Tryz.func150,zK Tryz.func151,zK Tryz.func152,zK Tryz.func153,zK Tryz.func154,zK Tryz.func167,zK Tryz.func168,zK Tryz.func169,zK Tryz.func170,zK Tryz.func171,zK Tryz.func172,zK Tryz.func173,zK Tryz.func202,zK Tryz.func226,zK Tryz.func227,zK Tryz.func228,zK Tryz.func229,zK Tryz.func230,zK Tryz.func231,zK Tryz.func236,zK Tryz.func237,zK Tryz.func238,zK Tryz.func239,zK Tryz.func291,zK Tryz.func292,trivial⟩ trivial
theorem f125_pure:PureOK Tryz.prog cfg 125 f125_spec:=pure_of_run f125_envOK (fn:=Tryz.f125) (c:=f125_code) rfl rfl f125_spec (fun x y h=>by
 simp only [f125_spec] at h
 cases h0:tysDeq [yG] x f125_a0
 case true =>
  rw [h0,cond_true] at h
  cases h
  rw [tysDeq_eq h0]
  exact f125_run0
 rw [h0,cond_false] at h
 cases h)
end Go.V.G
namespace Go.V.G
open Go.Proofs
noncomputable def f128_code:Code:=Tryz.f128.body.getD .skip
noncomputable def f128_env:Env0:={ C:=cfg,P:=[],L:=[],F:=[(54,Tryz.f54),(84,Tryz.f84),(86,Tryz.f86),(99,Tryz.f99),(100,Tryz.f100),(112,Tryz.f112),(128,Tryz.f128),(143,Tryz.f143),(144,Tryz.f144),(145,Tryz.f145),(146,Tryz.f146),(147,Tryz.f147),(148,Tryz.f148),(149,Tryz.f149),(150,Tryz.f150),(151,Tryz.f151),(152,Tryz.f152),(153,Tryz.f153),(154,Tryz.f154),(181,Tryz.f181),(182,Tryz.f182),(188,Tryz.f188),(189,Tryz.f189),(202,Tryz.f202),(226,Tryz.f226),(227,Tryz.f227),(228,Tryz.f228),(229,Tryz.f229),(230,Tryz.f230),(231,Tryz.f231),(245,Tryz.f245),(246,Tryz.f246),(247,Tryz.f247),(248,Tryz.f248),(249,Tryz.f249),(250,Tryz.f250),(253,Tryz.f253),(291,Tryz.f291),(292,Tryz.f292),(296,Tryz.f296)],fuel:=64,vary:=true,tot:=[(143,[4]),(145,[4]),(181,[6,7]),(229,[4])] }
def f128_a0:tysDen [yG]:=(([((3:Int),(0:Int),())],[],[],()),())
def f128_r0:tysDen [(.sl yN),.int .i64]:=([((3:Int),[],())],(0:Int),())
theorem f128_run0:runF f128_env 128 Tryz.f128 f128_code [yG] [(.sl yN),.int .i64] f128_a0 = some f128_r0:=by kernel_rfl
def f128_spec:PSpec:={ args:=[yG],res:=[(.sl yN),.int .i64],fn:=fun x=>bif tysDeq [yG] x f128_a0 then some f128_r0 else none }
theorem f128_enter:zQ 128:=zN Tryz.func128
theorem f128_envOK:zE f128_env:=zO cfg_ok trivial trivial ⟨zK Tryz.func54,zK Tryz.func84,zK Tryz.func86,zK Tryz.func99,zK Tryz.func100,zK Tryz.func112,zK Tryz.func128,zK Tryz.func143,zK Tryz.func144,zK Tryz.func145,zK Tryz.func146,zK Tryz.func147,zK Tryz.func148,zK Tryz.func149,zK Tryz.func150,zK Tryz.func151,zK Tryz.func152,zK Tryz.func153,zK Tryz.func154,zK Tryz.func181,zK Tryz.func182,zK Tryz.func188,zK Tryz.func189,zK Tryz.func202,zK Tryz.func226,zK Tryz.func227,zK Tryz.func228,zK Tryz.func229,zK Tryz.func230,zK Tryz.func231,zK Tryz.func245,zK Tryz.func246,zK Tryz.func247,zK Tryz.func248,zK Tryz.func249,zK Tryz.func250,zK Tryz.func253,zK Tryz.func291,zK Tryz.func292,zK Tryz.func296,trivial⟩ trivial
theorem f128_pure:PureOK Tryz.prog cfg 128 f128_spec:=pure_of_run f128_envOK (fn:=Tryz.f128) (c:=f128_code) rfl rfl f128_spec (fun x y h=>by
 simp only [f128_spec] at h
 cases h0:tysDeq [yG] x f128_a0
 case true =>
  rw [h0,cond_true] at h
  cases h
  rw [tysDeq_eq h0]
  exact f128_run0
 rw [h0,cond_false] at h
 cases h)
end Go.V.G
namespace Go.V.G
open Go.Proofs
noncomputable def f131_code:Code:=Tryz.f131.body.getD .skip
noncomputable def f131_env:Env0:={ C:=cfg,P:=[],L:=[],F:=[(84,Tryz.f84),(86,Tryz.f86),(99,Tryz.f99),(100,Tryz.f100),(112,Tryz.f112),(131,Tryz.f131),(143,Tryz.f143),(144,Tryz.f144),(145,Tryz.f145),(146,Tryz.f146),(147,Tryz.f147),(148,Tryz.f148),(149,Tryz.f149),(150,Tryz.f150),(151,Tryz.f151),(152,Tryz.f152),(153,Tryz.f153),(154,Tryz.f154),(166,Tryz.f166),(191,Tryz.f191),(202,Tryz.f202),(226,Tryz.f226),(227,Tryz.f227),(228,Tryz.f228),(229,Tryz.f229),(230,Tryz.f230),(231,Tryz.f231),(256,Tryz.f256),(257,Tryz.f257),(258,Tryz.f258),(274,Tryz.f274),(291,Tryz.f291),(292,Tryz.f292),(295,Tryz.f295),(297,Tryz.f297),(298,Tryz.f298),(299,Tryz.f299),(300,Tryz.f300),(338,Tryz.f338),(339,Tryz.f339),(340,Tryz.f340),(341,Tryz.f341),(342,Tryz.f342),(343,Tryz.f343),(344,Tryz.f344),(345,Tryz.f345),(348,Tryz.f348),(363,Tryz.f363),(364,Tryz.f364),(367,Tryz.f367),(368,Tryz.f368),(369,Tryz.f369),(376,Tryz.f376)],fuel:=64,vary:=true,tot:=[(143,[4]),(145,[4]),(229,[4]),(258,[22]),(299,[12])] }
def f131_a0:tysDen [yG]:=(([((3:Int),(0:Int),())],[],[],()),())
def f131_r0:tysDen [(.sl yN),.int .i64]:=([((3:Int),[3,0,-1,-1,0],())],(0:Int),())
theorem f131_run0:runF f131_env 131 Tryz.f131 f131_code [yG] [(.sl yN),.int .i64] f131_a0 = some f131_r0:=by kernel_rfl
def f131_spec:PSpec:={ args:=[yG],res:=[(.sl yN),.int .i64],fn:=fun x=>bif tysDeq [yG] x f131_a0 then some f131_r0 else none }
theorem f131_enter:zQ 131:=zN Tryz.func131
theorem f131_envOK:zE f131_env:=zO cfg_ok trivial trivial ⟨zK Tryz.func84,zK Tryz.func86,zK Tryz.func99,zK Tryz.func100,zK Tryz.func112,zK Tryz.func131,zK Tryz.func143,zK Tryz.func144,zK Tryz.func145,zK Tryz.func146,zK Tryz.func147,zK Tryz.func148,zK Tryz.func149,zK Tryz.func150,zK Tryz.func151,zK Tryz.func152,zK Tryz.func153,zK Tryz.func154,zK Tryz.func166,zK Tryz.func191,zK Tryz.func202,zK Tryz.func226,zK Tryz.func227,zK Tryz.func228,zK Tryz.func229,zK Tryz.func230,zK Tryz.func231,zK Tryz.func256,zK Tryz.func257,zK Tryz.func258,zK Tryz.func274,zK Tryz.func291,zK Tryz.func292,zK Tryz.func295,zK Tryz.func297,zK Tryz.func298,zK Tryz.func299,zK Tryz.func300,zK Tryz.func338,zK Tryz.func339,zK Tryz.func340,zK Tryz.func341,zK Tryz.func342,zK Tryz.func343,zK Tryz.func344,zK Tryz.func345,zK Tryz.func348,zK Tryz.func363,zK Tryz.func364,zK Tryz.func367,zK Tryz.func368,zK Tryz.func369,zK Tryz.func376,trivial⟩ trivial
theorem f131_pure:PureOK Tryz.prog cfg 131 f131_spec:=pure_of_run f131_envOK (fn:=Tryz.f131) (c:=f131_code) rfl rfl f131_spec (fun x y h=>by
 simp only [f131_spec] at h
 cases h0:tysDeq [yG] x f131_a0
 case true =>
  rw [h0,cond_true] at h
  cases h
  rw [tysDeq_eq h0]
  exact f131_run0
 rw [h0,cond_false] at h
 cases h)
end Go.V.G
namespace Go.V.G
open Go.Proofs
noncomputable def f134_code:Code:=Tryz.f134.body.getD .skip
def f265_l18x_head:Ann:={ env:=[(1,cP 24013001),(3,cP 24013003),(4,cP 24013004),(7,YI),(63,YI),(66,YI)],stk:=[[(1,cP 24001),(2,.cst .nils),(3,YI),(4,YI)],[(1,cP 1),(2,.cst .nils),(3,YI)]],bxs:=[(24013001,.var [.ty (.sl yV),.ty (.sl yD),.ty (.sl yI)]),(24013003,.var [cP 24013015]),(24013004,.var [.cst (.mp 24013016)]),(24001,.var [.ty (.sl yV),.ty (.sl yD),.ty (.sl yI)]),(1,.var [.ty (.sl yV),.ty (.sl yD),.ty (.sl yI)]),(24013015,.var [.ty (.arr 25 (.arr 49 yI)),.ty (.arr 25 (.arr 49 yI)),.cst .nils,.cst .nils]),(24013016,.map yI yI)] }
def f265_l18x_outs:List (Ex × Ann):=[((.exit 5),{ env:=[(1,cP 24013001),(3,cP 24013003),(4,cP 24013004),(63,YI)],stk:=[[(1,cP 24001),(2,.cst .nils),(3,YI),(4,YI)],[(1,cP 1),(2,.cst .nils),(3,YI)]],bxs:=[(24013001,.var [.ty (.sl yV),.ty (.sl yD),.ty (.sl yI)]),(24013003,.var [cP 24013015]),(24013004,.var [.cst (.mp 24013016)]),(24001,.var [.ty (.sl yV),.ty (.sl yD),.ty (.sl yI)]),(1,.var [.ty (.sl yV),.ty (.sl yD),.ty (.sl yI)]),(24013015,.var [.ty (.arr 25 (.arr 49 yI)),.ty (.arr 25 (.arr 49 yI)),.cst .nils,.cst .nils]),(24013016,.map yI yI)] })]
def f265_l18x (t7:Int) (t63:Int) (k0t3:Int) (k0t4:Int) (k1t3:Int) (b24013001g0:(List Yv)) (b24013001g1:(List Yd)) (b24013001g2:(List Int)) (b24001g0:(List Yv)) (b24001g1:(List Yd)) (b24001g2:(List Int)) (b1g0:(List Yv)) (b1g1:(List Yd)) (b1g2:(List Int)) (b24013015g0:(List (List Int))) (m24013016:(List (Int × Int))):Nat→Int→(List (List Int))→Option (outDen f265_l18x_outs)
 | 0,_,_=>none
 | k + 1,t66,b24013015g1 =>
 bif (decide (t66 < (49:Int))) then
 bif (inR t7 25) then bif (inR t66 49) then f265_l18x t7 t63 k0t3 k0t4 k1t3 b24013001g0 b24013001g1 b24013001g2 b24001g0 b24001g1 b24001g2 b1g0 b1g1 b1g2 b24013015g0 m24013016 k (IntKind.wrap .i64 (t66 + 1)) (b24013015g1.set (Int.toNat t7) ((at_ (.arr 49 yI) b24013015g1 t7).set (Int.toNat t66) (-1:Int))) else none else none
 else
 some ((t63,()),((k0t3,k0t4,()),(k1t3,()),()),((b24013001g0,b24013001g1,b24013001g2,()),(),(),(b24001g0,b24001g1,b24001g2,()),(b1g0,b1g1,b1g2,()),(b24013015g0,b24013015g1,()),m24013016,()))
def f265_l18x_n (n:Nat) (x:f265_l18x_head.den):=f265_l18x x.1.1 x.1.2.1 x.2.1.1.1 x.2.1.1.2.1 x.2.1.2.1.1 x.2.2.1.1 x.2.2.1.2.1 x.2.2.1.2.2.1 x.2.2.2.2.2.1.1 x.2.2.2.2.2.1.2.1 x.2.2.2.2.2.1.2.2.1 x.2.2.2.2.2.2.1.1 x.2.2.2.2.2.2.1.2.1 x.2.2.2.2.2.2.1.2.2.1 x.2.2.2.2.2.2.2.1.1 x.2.2.2.2.2.2.2.2.1 n x.1.2.2.1 x.2.2.2.2.2.2.2.1.2.1
def f265_l18x_spec:LSpec:={ head:=f265_l18x_head,outs:=f265_l18x_outs,fn:=fun x=>f265_l18x_n (((49:Int) - x.1.2.2.1).toNat + 1) x }
def f265_l15x_head:Ann:={ env:=[(1,cP 24013001),(3,cP 24013003),(4,cP 24013004),(63,YI)],stk:=[[(1,cP 24001),(2,.cst .nils),(3,YI),(4,YI)],[(1,cP 1),(2,.cst .nils),(3,YI)]],bxs:=[(24013001,.var [.ty (.sl yV),.ty (.sl yD),.ty (.sl yI)]),(24013003,.var [cP 24013015]),(24013004,.var [.cst (.mp 24013016)]),(24001,.var [.ty (.sl yV),.ty (.sl yD),.ty (.sl yI)]),(1,.var [.ty (.sl yV),.ty (.sl yD),.ty (.sl yI)]),(24013015,.var [.ty (.arr 25 (.arr 49 yI)),.ty (.arr 25 (.arr 49 yI)),.cst .nils,.cst .nils]),(24013016,.map yI yI)] }
def f265_l15x_outs:List (Ex × Ann):=[((.exit 3),{ env:=[(1,cP 24013001),(3,cP 24013003),(4,cP 24013004)],stk:=[[(1,cP 24001),(2,.cst .nils),(3,YI),(4,YI)],[(1,cP 1),(2,.cst .nils),(3,YI)]],bxs:=[(24013001,.var [.ty (.sl yV),.ty (.sl yD),.ty (.sl yI)]),(24013003,.var [cP 24013015]),(24013004,.var [.cst (.mp 24013016)]),(24001,.var [.ty (.sl yV),.ty (.sl yD),.ty (.sl yI)]),(1,.var [.ty (.sl yV),.ty (.sl yD),.ty (.sl yI)]),(24013015,.var [.ty (.arr 25 (.arr 49 yI)),.ty (.arr 25 (.arr 49 yI)),.cst .nils,.cst .nils]),(24013016,.map yI yI)] })]
def f265_l15x:Nat→Int→Int→Int→Int→(List Yv)→(List Yd)→(List Int)→(List Yv)→(List Yd)→(List Int)→(List Yv)→(List Yd)→(List Int)→(List (List Int))→(List (List Int))→(List (Int × Int))→Option (outDen f265_l15x_outs)
 | 0,_,_,_,_,_,_,_,_,_,_,_,_,_,_,_,_=>none
 | k + 1,t63,k0t3,k0t4,k1t3,b24013001g0,b24013001g1,b24013001g2,b24001g0,b24001g1,b24001g2,b1g0,b1g1,b1g2,b24013015g0,b24013015g1,m24013016 =>
 bif (decide (t63 < (25:Int))) then
 (f265_l18x t63 t63 k0t3 k0t4 k1t3 b24013001g0 b24013001g1 b24013001g2 b24001g0 b24001g1 b24001g2 b1g0 b1g1 b1g2 b24013015g0 m24013016 (((49:Int) - (0:Int)).toNat + 1) (0:Int) b24013015g1).bind fun o303 =>
 let u304:Int:=o303.1.1
 let u305:Int:=o303.2.1.1.1
 let u306:Int:=o303.2.1.1.2.1
 let u307:Int:=o303.2.1.2.1.1
 let u308:(List Yv):=o303.2.2.1.1
 let u309:(List Yd):=o303.2.2.1.2.1
 let u310:(List Int):=o303.2.2.1.2.2.1
 let u311:(List Yv):=o303.2.2.2.2.2.1.1
 let u312:(List Yd):=o303.2.2.2.2.2.1.2.1
 let u313:(List Int):=o303.2.2.2.2.2.1.2.2.1
 let u314:(List Yv):=o303.2.2.2.2.2.2.1.1
 let u315:(List Yd):=o303.2.2.2.2.2.2.1.2.1
 let u316:(List Int):=o303.2.2.2.2.2.2.1.2.2.1
 let u317:(List (List Int)):=o303.2.2.2.2.2.2.2.1.1
 let u318:(List (List Int)):=o303.2.2.2.2.2.2.2.1.2.1
 let u319:(List (Int × Int)):=o303.2.2.2.2.2.2.2.2.1
 f265_l15x k (IntKind.wrap .i64 (u304 + 1)) u305 u306 u307 u308 u309 u310 u311 u312 u313 u314 u315 u316 u317 u318 u319
 else
 some ((),((k0t3,k0t4,()),(k1t3,()),()),((b24013001g0,b24013001g1,b24013001g2,()),(),(),(b24001g0,b24001g1,b24001g2,()),(b1g0,b1g1,b1g2,()),(b24013015g0,b24013015g1,()),m24013016,()))
def f265_l15x_n (n:Nat) (x:f265_l15x_head.den):=f265_l15x n x.1.1 x.2.1.1.1 x.2.1.1.2.1 x.2.1.2.1.1 x.2.2.1.1 x.2.2.1.2.1 x.2.2.1.2.2.1 x.2.2.2.2.2.1.1 x.2.2.2.2.2.1.2.1 x.2.2.2.2.2.1.2.2.1 x.2.2.2.2.2.2.1.1 x.2.2.2.2.2.2.1.2.1 x.2.2.2.2.2.2.1.2.2.1 x.2.2.2.2.2.2.2.1.1 x.2.2.2.2.2.2.2.1.2.1 x.2.2.2.2.2.2.2.2.1
def f265_l15x_spec:LSpec:={ head:=f265_l15x_head,outs:=f265_l15x_outs,fn:=fun x=>f265_l15x_n (((25:Int) - x.1.1).toNat + 1) x }
noncomputable def f134_code_265:Code:=Tryz.f265.body.getD .skip
noncomputable def f134_env:Env0:={ C:=cfg,P:=[],L:=[(⟨10,24013000,265,18⟩,f265_l18x_spec),(⟨10,24013000,265,15⟩,f265_l15x_spec)],F:=[(84,Tryz.f84),(86,Tryz.f86),(99,Tryz.f99),(100,Tryz.f100),(112,Tryz.f112),(134,Tryz.f134),(143,Tryz.f143),(144,Tryz.f144),(145,Tryz.f145),(146,Tryz.f146),(147,Tryz.f147),(148,Tryz.f148),(149,Tryz.f149),(150,Tryz.f150),(151,Tryz.f151),(152,Tryz.f152),(153,Tryz.f153),(154,Tryz.f154),(195,Tryz.f195),(196,Tryz.f196),(197,Tryz.f197),(198,Tryz.f198),(199,Tryz.f199),(202,Tryz.f202),(205,Tryz.f205),(226,Tryz.f226),(227,Tryz.f227),(228,Tryz.f228),(229,Tryz.f229),(230,Tryz.f230),(231,Tryz.f231),(241,Tryz.f241),(265,Tryz.f265),(266,Tryz.f266),(267,Tryz.f267),(268,Tryz.f268),(277,Tryz.f277),(291,Tryz.f291),(292,Tryz.f292),(294,Tryz.f294),(295,Tryz.f295),(303,Tryz.f303),(304,Tryz.f304),(305,Tryz.f305),(323,Tryz.f323),(324,Tryz.f324),(329,Tryz.f329),(330,Tryz.f330),(331,Tryz.f331),(332,Tryz.f332),(333,Tryz.f333),(334,Tryz.f334),(335,Tryz.f335),(338,Tryz.f338),(339,Tryz.f339),(362,Tryz.f362),(363,Tryz.f363),(364,Tryz.f364),(365,Tryz.f365),(366,Tryz.f366),(375,Tryz.f375)],fuel:=64,vary:=true,tot:=[(143,[4]),(145,[4]),(205,[9]),(229,[4]),(265,[26]),(266,[2,3,8]),(303,[5])] }
theorem f265_l18x_ok:LoopOK f134_env 10 265 24013000 (loopAt f134_code_265 18) f265_l18x_spec :=
 loopOK_of (by kernel_rfl) f265_l18x_n (fun x o h=>⟨_,h⟩) (fun x=>by kernel_rfl) (fun n x=>by kernel_rfl)
theorem f265_l15x_ok:LoopOK f134_env 10 265 24013000 (loopAt f134_code_265 15) f265_l15x_spec :=
 loopOK_of (by kernel_rfl) f265_l15x_n (fun x o h=>⟨_,h⟩) (fun x=>by kernel_rfl) (fun n x=>by kernel_rfl)
def f134_a0:tysDen [yG]:=(([((3:Int),(0:Int),())],[],[],()),())
def f134_r0:tysDen [(.sl yN),.int .i64]:=([((3:Int),[-1,0,0],())],(0:Int),())
theorem f134_run0:runF f134_env 134 Tryz.f134 f134_code [yG] [(.sl yN),.int .i64] f134_a0 = some f134_r0:=by kernel_rfl
def f134_spec:PSpec:={ args:=[yG],res:=[(.sl yN),.int .i64],fn:=fun x=>bif tysDeq [yG] x f134_a0 then some f134_r0 else none }
theorem f134_enter:zQ 134:=zN Tryz.func134
theorem f134_envOK:zE f134_env:=zO cfg_ok trivial trivial ⟨zK Tryz.func84,zK Tryz.func86,zK Tryz.func99,zK Tryz.func100,zK Tryz.func112,zK Tryz.func134,zK Tryz.func143,zK Tryz.func144,zK Tryz.func145,zK Tryz.func146,zK Tryz.func147,zK Tryz.func148,zK Tryz.func149,zK Tryz.func150,zK Tryz.func151,zK Tryz.func152,zK Tryz.func153,zK Tryz.func154,zK Tryz.func195,zK Tryz.func196,zK Tryz.func197,zK Tryz.func198,zK Tryz.func199,zK Tryz.func202,zK Tryz.func205,zK Tryz.func226,zK Tryz.func227,zK Tryz.func228,zK Tryz.func229,zK Tryz.func230,zK Tryz.func231,zK Tryz.func241,zK Tryz.func265,zK Tryz.func266,zK Tryz.func267,zK Tryz.func268,zK Tryz.func277,zK Tryz.func291,zK Tryz.func292,zK Tryz.func294,zK Tryz.func295,zK Tryz.func303,zK Tryz.func304,zK Tryz.func305,zK Tryz.func323,zK Tryz.func324,zK Tryz.func329,zK Tryz.func330,zK Tryz.func331,zK Tryz.func332,zK Tryz.func333,zK Tryz.func334,zK Tryz.func335,zK Tryz.func338,zK Tryz.func339,zK Tryz.func362,zK Tryz.func363,zK Tryz.func364,zK Tryz.func365,zK Tryz.func366,zK Tryz.func375,trivial⟩ ⟨⟨Tryz.f265,f134_code_265,rfl,rfl,f265_l18x_ok⟩,⟨Tryz.f265,f134_code_265,rfl,rfl,f265_l15x_ok⟩,trivial⟩
theorem f134_pure:PureOK Tryz.prog cfg 134 f134_spec:=pure_of_run f134_envOK (fn:=Tryz.f134) (c:=f134_code) rfl rfl f134_spec (fun x y h=>by
 simp only [f134_spec] at h
 cases h0:tysDeq [yG] x f134_a0
 case true =>
  rw [h0,cond_true] at h
  cases h
  rw [tysDeq_eq h0]
  exact f134_run0
 rw [h0,cond_false] at h
 cases h)
end Go.V.G
namespace Go.V.G
open Go.Proofs
noncomputable def f137_code:Code:=Tryz.f137.body.getD .skip
noncomputable def f137_env:Env0:={ C:=cfg,P:=[],L:=[],F:=[(84,Tryz.f84),(86,Tryz.f86),(99,Tryz.f99),(100,Tryz.f100),(112,Tryz.f112),(137,Tryz.f137),(143,Tryz.f143),(144,Tryz.f144),(145,Tryz.f145),(146,Tryz.f146),(147,Tryz.f147),(148,Tryz.f148),(149,Tryz.f149),(150,Tryz.f150),(151,Tryz.f151),(152,Tryz.f152),(153,Tryz.f153),(154,Tryz.f154),(202,Tryz.f202),(204,Tryz.f204),(205,Tryz.f205),(206,Tryz.f206),(207,Tryz.f207),(208,Tryz.f208),(209,Tryz.f209),(210,Tryz.f210),(211,Tryz.f211),(216,Tryz.f216),(217,Tryz.f217),(226,Tryz.f226),(227,Tryz.f227),(228,Tryz.f228),(229,Tryz.f229),(230,Tryz.f230),(231,Tryz.f231),(270,Tryz.f270),(271,Tryz.f271),(272,Tryz.f272),(273,Tryz.f273),(274,Tryz.f274),(275,Tryz.f275),(276,Tryz.f276),(277,Tryz.f277),(278,Tryz.f278),(291,Tryz.f291),(292,Tryz.f292),(295,Tryz.f295),(306,Tryz.f306),(307,Tryz.f307),(308,Tryz.f308),(309,Tryz.f309),(310,Tryz.f310),(311,Tryz.f311),(312,Tryz.f312),(313,Tryz.f313),(314,Tryz.f314),(315,Tryz.f315),(316,Tryz.f316),(317,Tryz.f317),(318,Tryz.f318),(319,Tryz.f319),(320,Tryz.f320),(321,Tryz.f321),(322,Tryz.f322),(323,Tryz.f323),(324,Tryz.f324),(325,Tryz.f325),(326,Tryz.f326),(338,Tryz.f338),(339,Tryz.f339),(349,Tryz.f349),(350,Tryz.f350),(351,Tryz.f351),(352,Tryz.f352),(353,Tryz.f353),(354,Tryz.f354),(355,Tryz.f355),(356,Tryz.f356),(357,Tryz.f357),(358,Tryz.f358),(361,Tryz.f361),(363,Tryz.f363),(364,Tryz.f364),(370,Tryz.f370),(371,Tryz.f371),(372,Tryz.f372),(373,Tryz.f373),(374,Tryz.f374),(377,Tryz.f377),(378,Tryz.f378),(379,Tryz.f379)],fuel:=64,vary:=true,tot:=[(137,[4]),(143,[4]),(145,[4]),(205,[9]),(229,[4]),(276,[5]),(306,[27,28]),(349,[2])] }
def f137_a0:tysDen [yG]:=(([((3:Int),(0:Int),())],[],[],()),())
def f137_r0:tysDen [(.sl yN),.int .i64]:=([((3:Int),[-1,0],())],(0:Int),())
theorem f137_run0:runF f137_env 137 Tryz.f137 f137_code [yG] [(.sl yN),.int .i64] f137_a0 = some f137_r0:=by kernel_rfl
def f137_spec:PSpec:={ args:=[yG],res:=[(.sl yN),.int .i64],fn:=fun x=>bif tysDeq [yG] x f137_a0 then some f137_r0 else none }
theorem f137_enter:zQ 137:=zN Tryz.func137
theorem f137_envOK:zE f137_env:=zO cfg_ok trivial trivial ⟨zK Tryz.func84,zK Tryz.func86,zK Tryz.func99,zK Tryz.func100,zK Tryz.func112,zK Tryz.func137,zK Tryz.func143,zK Tryz.func144,zK Tryz.func145,zK Tryz.func146,zK Tryz.func147,zK Tryz.func148,zK Tryz.func149,zK Tryz.func150,zK Tryz.func151,zK Tryz.func152,zK Tryz.func153,zK Tryz.func154,zK Tryz.func202,zK Tryz.func204,zK Tryz.func205,zK Tryz.func206,zK Tryz.func207,zK Tryz.func208,zK Tryz.func209,zK Tryz.func210,zK Tryz.func211,zK Tryz.func216,zK Tryz.func217,zK Tryz.func226,zK Tryz.func227,zK Tryz.func228,zK Tryz.func229,zK Tryz.func230,zK Tryz.func231,zK Tryz.func270,zK Tryz.func271,zK Tryz.func272,zK Tryz.func273,zK Tryz.func274,zK Tryz.func275,zK Tryz.func276,zK Tryz.func277,zK Tryz.func278,zK Tryz.func291,zK Tryz.func292,zK Tryz.func295,zK Tryz.func306,zK Tryz.func307,zK Tryz.func308,zK Tryz.func309,zK Tryz.func310,zK Tryz.func311,zK Tryz.func312,zK Tryz.func313,zK Tryz.func314,zK Tryz.func315,zK Tryz.func316,zK Tryz.func317,zK Tryz.func318,zK Tryz.func319,zK Tryz.func320,zK Tryz.func321,zK Tryz.func322,zK Tryz.func323,zK Tryz.func324,zK Tryz.func325,zK Tryz.func326,zK Tryz.func338,zK Tryz.func339,zK Tryz.func349,zK Tryz.func350,zK Tryz.func351,zK Tryz.func352,zK Tryz.func353,zK Tryz.func354,zK Tryz.func355,zK Tryz.func356,zK Tryz.func357,zK Tryz.func358,zK Tryz.func361,zK Tryz.func363,zK Tryz.func364,zK Tryz.func370,zK Tryz.func371,zK Tryz.func372,zK Tryz.func373,zK Tryz.func374,zK Tryz.func377,zK Tryz.func378,zK Tryz.func379,trivial⟩ trivial
theorem f137_pure:PureOK Tryz.prog cfg 137 f137_spec:=pure_of_run f137_envOK (fn:=Tryz.f137) (c:=f137_code) rfl rfl f137_spec (fun x y h=>by
 simp only [f137_spec] at h
 cases h0:tysDeq [yG] x f137_a0
 case true =>
  rw [h0,cond_true] at h
  cases h
  rw [tysDeq_eq h0]
  exact f137_run0
 rw [h0,cond_false] at h
 cases h)
end Go.V.G
namespace Go.V.G
open Go.Proofs
noncomputable def f140_code:Code:=Tryz.f140.body.getD .skip
noncomputable def f140_env:Env0:={ C:=cfg,P:=[],L:=[],F:=[(54,Tryz.f54),(84,Tryz.f84),(86,Tryz.f86),(99,Tryz.f99),(100,Tryz.f100),(112,Tryz.f112),(140,Tryz.f140),(143,Tryz.f143),(144,Tryz.f144),(145,Tryz.f145),(146,Tryz.f146),(147,Tryz.f147),(148,Tryz.f148),(149,Tryz.f149),(150,Tryz.f150),(151,Tryz.f151),(152,Tryz.f152),(153,Tryz.f153),(154,Tryz.f154),(202,Tryz.f202),(219,Tryz.f219),(220,Tryz.f220),(221,Tryz.f221),(222,Tryz.f222),(225,Tryz.f225),(226,Tryz.f226),(227,Tryz.f227),(228,Tryz.f228),(229,Tryz.f229),(230,Tryz.f230),(231,Tryz.f231),(256,Tryz.f256),(282,Tryz.f282),(283,Tryz.f283),(284,Tryz.f284),(285,Tryz.f285),(286,Tryz.f286),(290,Tryz.f290),(291,Tryz.f291),(292,Tryz.f292),(295,Tryz.f295),(297,Tryz.f297),(338,Tryz.f338),(339,Tryz.f339),(340,Tryz.f340),(341,Tryz.f341),(342,Tryz.f342),(343,Tryz.f343),(344,Tryz.f344),(345,Tryz.f345),(363,Tryz.f363),(364,Tryz.f364),(367,Tryz.f367),(368,Tryz.f368),(369,Tryz.f369),(376,Tryz.f376)],fuel:=64,vary:=true,tot:=[(140,[15]),(143,[4]),(145,[4]),(229,[4])] }
def f140_a0:tysDen [yG]:=(([((3:Int),(0:Int),())],[],[],()),())
def f140_r0:tysDen [(.sl yN),.int .i64]:=([((3:Int),[0,-1,0],())],(0:Int),())
theorem f140_run0:runF f140_env 140 Tryz.f140 f140_code [yG] [(.sl yN),.int .i64] f140_a0 = some f140_r0:=by kernel_rfl
def f140_spec:PSpec:={ args:=[yG],res:=[(.sl yN),.int .i64],fn:=fun x=>bif tysDeq [yG] x f140_a0 then some f140_r0 else none }
theorem f140_enter:zQ 140:=zN Tryz.func140
theorem f140_envOK:zE f140_env:=zO cfg_ok trivial trivial ⟨zK Tryz.func54,zK Tryz.func84,zK Tryz.func86,zK Tryz.func99,zK Tryz.func100,zK Tryz.func112,zK Tryz.func140,zK Tryz.func143,zK Tryz.func144,zK Tryz.func145,zK Tryz.func146,zK Tryz.func147,zK Tryz.func148,zK Tryz.func149,zK Tryz.func150,zK Tryz.func151,zK Tryz.func152,zK Tryz.func153,zK Tryz.func154,zK Tryz.func202,zK Tryz.func219,zK Tryz.func220,zK Tryz.func221,zK Tryz.func222,zK Tryz.func225,zK Tryz.func226,zK Tryz.func227,zK Tryz.func228,zK Tryz.func229,zK Tryz.func230,zK Tryz.func231,zK Tryz.func256,zK Tryz.func282,zK Tryz.func283,zK Tryz.func284,zK Tryz.func285,zK Tryz.func286,zK Tryz.func290,zK Tryz.func291,zK Tryz.func292,zK Tryz.func295,zK Tryz.func297,zK Tryz.func338,zK Tryz.func339,zK Tryz.func340,zK Tryz.func341,zK Tryz.func342,zK Tryz.func343,zK Tryz.func344,zK Tryz.func345,zK Tryz.func363,zK Tryz.func364,zK Tryz.func367,zK Tryz.func368,zK Tryz.func369,zK Tryz.func376,trivial⟩ trivial
theorem f140_pure:PureOK Tryz.prog cfg 140 f140_spec:=pure_of_run f140_envOK (fn:=Tryz.f140) (c:=f140_code) rfl rfl f140_spec (fun x y h=>by
 simp only [f140_spec] at h
 cases h0:tysDeq [yG] x f140_a0
 case true =>
  rw [h0,cond_true] at h
  cases h
  rw [tysDeq_eq h0]
  exact f140_run0
 rw [h0,cond_false] at h
 cases h)
end Go.V.G
namespace Go.V.G
open Go.Proofs
noncomputable def f75_code:Code:=Tryz.f75.body.getD .skip
noncomputable def f75_env:Env0:={ C:=cfg,P:=[(122,f122_spec),(125,f125_spec),(128,f128_spec),(131,f131_spec),(134,f134_spec),(137,f137_spec),(140,f140_spec)],L:=[],F:=[(75,Tryz.f75),(82,Tryz.f82),(84,Tryz.f84),(86,Tryz.f86),(93,Tryz.f93),(99,Tryz.f99),(100,Tryz.f100),(111,Tryz.f111),(123,Tryz.f123),(124,Tryz.f124),(126,Tryz.f126),(127,Tryz.f127),(129,Tryz.f129),(130,Tryz.f130),(132,Tryz.f132),(133,Tryz.f133),(135,Tryz.f135),(136,Tryz.f136),(138,Tryz.f138),(139,Tryz.f139),(141,Tryz.f141),(142,Tryz.f142),(153,Tryz.f153),(164,Tryz.f164),(165,Tryz.f165),(166,Tryz.f166),(172,Tryz.f172),(174,Tryz.f174),(175,Tryz.f175),(176,Tryz.f176),(177,Tryz.f177),(178,Tryz.f178),(179,Tryz.f179),(180,Tryz.f180),(183,Tryz.f183),(184,Tryz.f184),(185,Tryz.f185),(186,Tryz.f186),(187,Tryz.f187),(188,Tryz.f188),(189,Tryz.f189),(190,Tryz.f190),(192,Tryz.f192),(193,Tryz.f193),(194,Tryz.f194),(198,Tryz.f198),(200,Tryz.f200),(201,Tryz.f201),(202,Tryz.f202),(203,Tryz.f203),(212,Tryz.f212),(213,Tryz.f213),(214,Tryz.f214),(215,Tryz.f215),(216,Tryz.f216),(217,Tryz.f217),(218,Tryz.f218),(223,Tryz.f223),(224,Tryz.f224),(225,Tryz.f225),(234,Tryz.f234),(235,Tryz.f235),(239,Tryz.f239),(240,Tryz.f240),(241,Tryz.f241),(242,Tryz.f242),(243,Tryz.f243),(244,Tryz.f244),(251,Tryz.f251),(252,Tryz.f252),(253,Tryz.f253),(254,Tryz.f254),(255,Tryz.f255),(256,Tryz.f256),(257,Tryz.f257),(259,Tryz.f259),(260,Tryz.f260),(261,Tryz.f261),(262,Tryz.f262),(263,Tryz.f263),(264,Tryz.f264),(269,Tryz.f269),(274,Tryz.f274),(279,Tryz.f279),(280,Tryz.f280),(281,Tryz.f281),(287,Tryz.f287),(288,Tryz.f288),(289,Tryz.f289),(290,Tryz.f290),(294,Tryz.f294),(295,Tryz.f295),(297,Tryz.f297),(301,Tryz.f301),(302,Tryz.f302),(327,Tryz.f327),(329,Tryz.f329),(330,Tryz.f330),(331,Tryz.f331),(332,Tryz.f332),(333,Tryz.f333),(334,Tryz.f334),(335,Tryz.f335),(338,Tryz.f338),(339,Tryz.f339),(340,Tryz.f340),(341,Tryz.f341),(342,Tryz.f342),(343,Tryz.f343),(344,Tryz.f344),(345,Tryz.f345),(362,Tryz.f362),(363,Tryz.f363),(364,Tryz.f364),(365,Tryz.f365),(366,Tryz.f366),(367,Tryz.f367),(368,Tryz.f368),(369,Tryz.f369),(375,Tryz.f375),(376,Tryz.f376)],fuel:=64,vary:=true,tot:=[(126,[14]),(129,[27,31]),(192,[12]),(223,[9])] }
def f75_a0:tysDen [.int .i64,yG]:=((1:Int),([((3:Int),(0:Int),())],[],[],()),())
def f75_r0:tysDen [(.sl yN),.int .i64]:=([((3:Int),[3,0,-1],())],(0:Int),())
theorem f75_run0:runF f75_env 75 Tryz.f75 f75_code [.int .i64,yG] [(.sl yN),.int .i64] f75_a0 = some f75_r0:=by kernel_rfl
def f75_a1:tysDen [.int .i64,yG]:=((2:Int),([((3:Int),(0:Int),())],[],[],()),())
def f75_r1:tysDen [(.sl yN),.int .i64]:=([((3:Int),[3,0,-1,0,-1,0,0],())],(0:Int),())
theorem f75_run1:runF f75_env 75 Tryz.f75 f75_code [.int .i64,yG] [(.sl yN),.int .i64] f75_a1 = some f75_r1:=by kernel_rfl
def f75_a2:tysDen [.int .i64,yG]:=((3:Int),([((3:Int),(0:Int),())],[],[],()),())
def f75_r2:tysDen [(.sl yN),.int .i64]:=([((3:Int),[],())],(0:Int),())
theorem f75_run2:runF f75_env 75 Tryz.f75 f75_code [.int .i64,yG] [(.sl yN),.int .i64] f75_a2 = some f75_r2:=by kernel_rfl
def f75_a3:tysDen [.int .i64,yG]:=((4:Int),([((3:Int),(0:Int),())],[],[],()),())
def f75_r3:tysDen [(.sl yN),.int .i64]:=([((3:Int),[3,0,-1,-1,0],())],(0:Int),())
theorem f75_run3:runF f75_env 75 Tryz.f75 f75_code [.int .i64,yG] [(.sl yN),.int .i64] f75_a3 = some f75_r3:=by kernel_rfl
def f75_a4:tysDen [.int .i64,yG]:=((5:Int),([((3:Int),(0:Int),())],[],[],()),())
def f75_r4:tysDen [(.sl yN),.int .i64]:=([((3:Int),[-1,0,0],())],(0:Int),())
theorem f75_run4:runF f75_env 75 Tryz.f75 f75_code [.int .i64,yG] [(.sl yN),.int .i64] f75_a4 = some f75_r4:=by kernel_rfl
def f75_a5:tysDen [.int .i64,yG]:=((6:Int),([((3:Int),(0:Int),())],[],[],()),())
def f75_r5:tysDen [(.sl yN),.int .i64]:=([((3:Int),[-1,0],())],(0:Int),())
theorem f75_run5:runF f75_env 75 Tryz.f75 f75_code [.int .i64,yG] [(.sl yN),.int .i64] f75_a5 = some f75_r5:=by kernel_rfl
def f75_a6:tysDen [.int .i64,yG]:=((7:Int),([((3:Int),(0:Int),())],[],[],()),())
def f75_r6:tysDen [(.sl yN),.int .i64]:=([((3:Int),[0,-1,0],())],(0:Int),())
theorem f75_run6:runF f75_env 75 Tryz.f75 f75_code [.int .i64,yG] [(.sl yN),.int .i64] f75_a6 = some f75_r6:=by kernel_rfl
def f75_a7:tysDen [.int .i64,yG]:=((1:Int),([],[],[(1:Int)],()),())
def f75_r7:tysDen [(.sl yN),.int .i64]:=([],(150:Int),())
theorem f75_run7:runF f75_env 75 Tryz.f75 f75_code [.int .i64,yG] [(.sl yN),.int .i64] f75_a7 = some f75_r7:=by kernel_rfl
def f75_spec:PSpec:={ args:=[.int .i64,yG],res:=[(.sl yN),.int .i64],fn:=fun x=>bif tysDeq [.int .i64,yG] x f75_a0 then some f75_r0 else bif tysDeq [.int .i64,yG] x f75_a1 then some f75_r1 else bif tysDeq [.int .i64,yG] x f75_a2 then some f75_r2 else bif tysDeq [.int .i64,yG] x f75_a3 then some f75_r3 else bif tysDeq [.int .i64,yG] x f75_a4 then some f75_r4 else bif tysDeq [.int .i64,yG] x f75_a5 then some f75_r5 else bif tysDeq [.int .i64,yG] x f75_a6 then some f75_r6 else bif tysDeq [.int .i64,yG] x f75_a7 then some f75_r7 else none }
theorem f75_enter:zQ 75:=zN Tryz.func75
theorem f75_envOK:zE f75_env:=zO cfg_ok ⟨⟨f122_pure,f122_enter⟩,⟨f125_pure,f125_enter⟩,⟨f128_pure,f128_enter⟩,⟨f131_pure,f131_enter⟩,⟨f134_pure,f134_enter⟩,⟨f137_pure,f137_enter⟩,⟨f140_pure,f140_enter⟩,trivial⟩ trivial ⟨zK Tryz.func75,zK Tryz.func82,zK Tryz.func84,zK Tryz.func86,zK Tryz.func93,zK Tryz.func99,zK Tryz.func100,zK Tryz.func111,zK Tryz.func123,zK Tryz.func124,zK Tryz.func126,zK Tryz.func127,zK Tryz.func129,zK Tryz.func130,zK Tryz.func132,zK Tryz.func133,zK Tryz.func135,zK Tryz.func136,zK Tryz.func138,zK Tryz.func139,zK Tryz.func141,zK Tryz.func142,zK Tryz.func153,zK Tryz.func164,zK Tryz.func165,zK Tryz.func166,zK Tryz.func172,zK Tryz.func174,zK Tryz.func175,zK Tryz.func176,zK Tryz.func177,zK Tryz.func178,zK Tryz.func179,zK Tryz.func180,zK Tryz.func183,zK Tryz.func184,zK Tryz.func185,zK Tryz.func186,zK Tryz.func187,zK Tryz.func188,zK Tryz.func189,zK Tryz.func190,zK Tryz.func192,zK Tryz.func193,zK Tryz.func194,zK Tryz.func198,zK Tryz.func200,zK Tryz.func201,zK Tryz.func202,zK Tryz.func203,zK Tryz.func212,zK Tryz.func213,zK Tryz.func214,zK Tryz.func215,zK Tryz.func216,zK Tryz.func217,zK Tryz.func218,zK Tryz.func223,zK Tryz.func224,zK Tryz.func225,zK Tryz.func234,zK Tryz.func235,zK Tryz.func239,zK Tryz.func240,zK Tryz.func241,zK Tryz.func242,zK Tryz.func243,zK Tryz.func244,zK Tryz.func251,zK Tryz.func252,zK Tryz.func253,zK Tryz.func254,zK Tryz.func255,zK Tryz.func256,zK Tryz.func257,zK Tryz.func259,zK Tryz.func260,zK Tryz.func261,zK Tryz.func262,zK Tryz.func263,zK Tryz.func264,zK Tryz.func269,zK Tryz.func274,zK Tryz.func279,zK Tryz.func280,zK Tryz.func281,zK Tryz.func287,zK Tryz.func288,zK Tryz.func289,zK Tryz.func290,zK Tryz.func294,zK Tryz.func295,zK Tryz.func297,zK Tryz.func301,zK Tryz.func302,zK Tryz.func327,zK Tryz.func329,zK Tryz.func330,zK Tryz.func331,zK Tryz.func332,zK Tryz.func333,zK Tryz.func334,zK Tryz.func335,zK Tryz.func338,zK Tryz.func339,zK Tryz.func340,zK Tryz.func341,zK Tryz.func342,zK Tryz.func343,zK Tryz.func344,zK Tryz.func345,zK Tryz.func362,zK Tryz.func363,zK Tryz.func364,zK Tryz.func365,zK Tryz.func366,zK Tryz.func367,zK Tryz.func368,zK Tryz.func369,zK Tryz.func375,zK Tryz.func376,trivial⟩ trivial
theorem f75_pure:PureOK Tryz.prog cfg 75 f75_spec:=pure_of_run f75_envOK (fn:=Tryz.f75) (c:=f75_code) rfl rfl f75_spec (fun x y h=>by
 simp only [f75_spec] at h
 cases h0:tysDeq [.int .i64,yG] x f75_a0
 case true =>
  rw [h0,cond_true] at h
  cases h
  rw [tysDeq_eq h0]
  exact f75_run0
 rw [h0,cond_false] at h
 cases h1:tysDeq [.int .i64,yG] x f75_a1
 case true =>
  rw [h1,cond_true] at h
  cases h
  rw [tysDeq_eq h1]
  exact f75_run1
 rw [h1,cond_false] at h
 cases h2:tysDeq [.int .i64,yG] x f75_a2
 case true =>
  rw [h2,cond_true] at h
  cases h
  rw [tysDeq_eq h2]
  exact f75_run2
 rw [h2,cond_false] at h
 cases h3:tysDeq [.int .i64,yG] x f75_a3
 case true =>
  rw [h3,cond_true] at h
  cases h
  rw [tysDeq_eq h3]
  exact f75_run3
 rw [h3,cond_false] at h
 cases h4:tysDeq [.int .i64,yG] x f75_a4
 case true =>
  rw [h4,cond_true] at h
  cases h
  rw [tysDeq_eq h4]
  exact f75_run4
 rw [h4,cond_false] at h
 cases h5:tysDeq [.int .i64,yG] x f75_a5
 case true =>
  rw [h5,cond_true] at h
  cases h
  rw [tysDeq_eq h5]
  exact f75_run5
 rw [h5,cond_false] at h
 cases h6:tysDeq [.int .i64,yG] x f75_a6
 case true =>
  rw [h6,cond_true] at h
  cases h
  rw [tysDeq_eq h6]
  exact f75_run6
 rw [h6,cond_false] at h
 cases h7:tysDeq [.int .i64,yG] x f75_a7
 case true =>
  rw [h7,cond_true] at h
  cases h
  rw [tysDeq_eq h7]
  exact f75_run7
 rw [h7,cond_false] at h
 cases h)
end Go.V.G
namespace Go.V.G
open Go.Proofs
noncomputable def c32_code:Code:=Tryz.f32.body.getD .skip
noncomputable def c32_env:Env0:={ C:=cfg,P:=[(75,f75_spec)],L:=[],F:=[(32,Tryz.f32)],fuel:=64,vary:=true }
def c32_a0:tysDen [yG]:=(([((3:Int),(0:Int),())],[],[],()),())
def c32_r0:tysDen [yC,.int .i64]:=(([[],[((3:Int),[3,0,-1],())],[((3:Int),[3,0,-1,0,-1,0,0],())],[((3:Int),[],())],[((3:Int),[3,0,-1,-1,0],())],[((3:Int),[-1,0,0],())],[((3:Int),[-1,0],())],[((3:Int),[0,-1,0],())]],()),(0:Int),())
theorem c32_run0:runF c32_env 32 Tryz.f32 c32_code [yG] [yC,.int .i64] c32_a0 = some c32_r0:=by kernel_rfl
def c32_a1:tysDen [yG]:=(([],[],[(1:Int)],()),())
def c32_r1:tysDen [yC,.int .i64]:=((List.replicate 8 [],()),(160:Int),())
theorem c32_run1:runF c32_env 32 Tryz.f32 c32_code [yG] [yC,.int .i64] c32_a1 = some c32_r1:=by kernel_rfl
noncomputable def c32 (b0:Ty.den (yG)):Option (tysDen [yC,.int .i64]):=(fun x:tysDen [yG]=>bif tysDeq [yG] x c32_a0 then some c32_r0 else bif tysDeq [yG] x c32_a1 then some c32_r1 else none) (b0,())
noncomputable def c32_spec:PSpec:={ args:=[yG],res:=[yC,.int .i64],fn:=fun x=>c32 x.1 }
theorem c32_enter:zQ 32:=zN Tryz.func32
theorem c32_envOK:zE c32_env:=zO cfg_ok ⟨⟨f75_pure,f75_enter⟩,trivial⟩ trivial ⟨zK Tryz.func32,trivial⟩ trivial
theorem c32_pure:PureOK Tryz.prog cfg 32 c32_spec:=pure_of_run c32_envOK (fn:=Tryz.f32) (c:=c32_code) rfl rfl c32_spec (fun x y h=>by
 simp only [c32_spec,c32] at h
 change (bif tysDeq [yG] x c32_a0 then some c32_r0 else bif tysDeq [yG] x c32_a1 then some c32_r1 else none) = _ at h
 cases h0:tysDeq [yG] x c32_a0
 case true =>
  rw [h0,cond_true] at h
  cases h
  rw [tysDeq_eq h0]
  exact c32_run0
 rw [h0,cond_false] at h
 cases h1:tysDeq [yG] x c32_a1
 case true =>
  rw [h1,cond_true] at h
  cases h
  rw [tysDeq_eq h1]
  exact c32_run1
 rw [h1,cond_false] at h
 cases h)
end Go.V.G
namespace Go.V.G
open Go.Proofs
noncomputable section
def f7G (F12:tysDen f12_spec.args→Option (tysDen f12_spec.res)) (F13:tysDen f13_spec.args→Option (tysDen f13_spec.res)) (F14:tysDen f14_spec.args→Option (tysDen f14_spec.res)) (F16:tysDen f16_spec.args→Option (tysDen f16_spec.res)) (F17:tysDen f17_spec.args→Option (tysDen f17_spec.res)) (F19:tysDen f19_spec.args→Option (tysDen f19_spec.res)) (F21:tysDen f21_spec.args→Option (tysDen f21_spec.res)) (F22:tysDen f22_spec.args→Option (tysDen f22_spec.res)) (F24:tysDen f24_spec.args→Option (tysDen f24_spec.res)) (F26:tysDen f26_spec.args→Option (tysDen f26_spec.res)) (F27:tysDen f27_spec.args→Option (tysDen f27_spec.res)) (F28:tysDen f28_spec.args→Option (tysDen f28_spec.res)) (F29:tysDen f29_spec.args→Option (tysDen f29_spec.res)) (Fc30:tysDen c30_spec.args→Option (tysDen c30_spec.res)) (F31:tysDen f31_spec.args→Option (tysDen f31_spec.res)) (Fc32:tysDen c32_spec.args→Option (tysDen c32_spec.res)) (F33:tysDen f33_spec.args→Option (tysDen f33_spec.res)) (F34:tysDen f34_spec.args→Option (tysDen f34_spec.res)) (F35:tysDen f35_spec.args→Option (tysDen f35_spec.res)) (F36:tysDen f36_spec.args→Option (tysDen f36_spec.res)):Option (Bool × Unit) :=
 bif (inR (1:Int) 8) then
 bif (inR (1:Int) 8) then
 (F12 ((([[],([((1:Int),(([(1:Int),(0:Int),(-1:Int)]:List Int),()))]:List Yn),[],[],[],[],[],[]]:List (List Yn)),()),((([[],([((0:Int),(([(0:Int),(0:Int),(-1:Int)]:List Int),())),((1:Int),(([(0:Int),(1:Int),(4:Int)]:List Int),()))]:List Yn),[],[],[],[],[],[]]:List (List Yn)),()),()))).bind fun y1 =>
 (F14 ((([[],([((1:Int),(([(1:Int),(0:Int),(-1:Int)]:List Int),()))]:List Yn),[],[],[],[],[],[]]:List (List Yn)),()),((([((1:Int),(0,(false,([],(true,(([(0:Int),(0:Int),(-1:Int)]:List Int),())))))),((1:Int),((1:Int),(true,(([(1:Int),(0:Int),(-1:Int)]:List Int),(true,(([(0:Int),(1:Int),(4:Int)]:List Int),()))))))]:List Yr),()),()))).bind fun y2 =>
 (F17 (y1.1,())).bind fun y3 =>
 (F22 ((([((1:Int),(0,(false,([],(true,(([(0:Int),(0:Int),(-1:Int)]:List Int),())))))),((1:Int),((1:Int),(true,(([(1:Int),(0:Int),(-1:Int)]:List Int),(true,(([(0:Int),(1:Int),(4:Int)]:List Int),()))))))]:List Yr),()),(y3.1,()))).bind fun y4 =>
 (F22 ((([((1:Int),(0,(false,([],(true,(([(0:Int),(0:Int),(-1:Int)]:List Int),())))))),((1:Int),((1:Int),(true,(([(1:Int),(0:Int),(-1:Int)]:List Int),(true,(([(0:Int),(1:Int),(4:Int)]:List Int),()))))))]:List Yr),()),((([((1:Int),(0,(false,([],(true,(([(0:Int),(0:Int),(-1:Int)]:List Int),())))))),((1:Int),((1:Int),(true,(([(1:Int),(0:Int),(-1:Int)]:List Int),(true,(([(0:Int),(1:Int),(4:Int)]:List Int),()))))))]:List Yr),()),()))).bind fun y5 =>
 (F27 (([(1:Int),(0:Int),(-1:Int)]:List Int),())).bind fun y6 =>
 (F28 ((⟨#[6,2,0,1]⟩:ByteArray),())).bind fun y7 =>
 (F29 ((([((1:Int),(0,(false,([],(true,(([(0:Int),(0:Int),(-1:Int)]:List Int),())))))),((1:Int),((1:Int),(true,(([(1:Int),(0:Int),(-1:Int)]:List Int),(true,(([(0:Int),(1:Int),(4:Int)]:List Int),()))))))]:List Yr),()),())).bind fun y8 =>
 bif (catOk (⟨#[120]⟩:ByteArray) y8.1) then
 (Fc30 (((⟨#[120]⟩:ByteArray)++y8.1),((1:Int),()))).bind fun y9 =>
 (F31 ((([[],([((1:Int),(([(1:Int),(0:Int),(-1:Int)]:List Int),()))]:List Yn),[],[],[],[],[],[]]:List (List Yn)),()),())).bind fun y10 =>
 bif (decide (y1.2.1 ≠ (0:Int))) then
 some (false,())
 else
 bif (decide (y2.2.1 ≠ (0:Int))) then
 some (false,())
 else
 bif (decide (y3.2.1 ≠ (0:Int))) then
 some (false,())
 else
 bif (decide (y4.2.1 ≠ (0:Int))) then
 some (false,())
 else
 bif (decide (y5.2.1 ≠ (160:Int))) then
 some (false,())
 else
 bif (decide (y6.2.1 ≠ (0:Int))) then
 some (false,())
 else
 bif (decide (y7.2.1 ≠ (0:Int))) then
 some (false,())
 else
 bif (decide (y8.2.1 ≠ (0:Int))) then
 some (false,())
 else
 bif (decide (y9.2.2.1 ≠ (0:Int))) then
 some (false,())
 else
 bif (decide (y10.2.1 ≠ (0:Int))) then
 some (false,())
 else
 let v11:Bool:=(!(decide (y6.1 = (⟨#[6,2,0,1]⟩:ByteArray))))
 bif v11 then
 some (false,())
 else
 let v12:Bool:=(decide ((y4.1.1.length:Int) > (0:Int)))
 bif v12 then
 some (false,())
 else
 (Fc32 ((([((3:Int),(0,()))]:List Yv),([],([],()))),())).bind fun y13 =>
 (Fc32 (([],([],(([(1:Int)]:List Int),()))),())).bind fun y14 =>
 (F33 (([],([],([],()))),((([[],([((1:Int),(([(1:Int),(0:Int),(-1:Int)]:List Int),()))]:List Yn),[],[],[],[],[],[]]:List (List Yn)),()),()))).bind fun y15 =>
 bif (decide (y13.2.1 ≠ (0:Int))) then
 some (false,())
 else
 bif (decide (y14.2.1 ≠ (160:Int))) then
 some (false,())
 else
 bif (decide (y15.2.1 ≠ (0:Int))) then
 some (false,())
 else
 let v16:Bool:=(decide ((y15.1.size:Int) ≠ (32:Int)))
 bif v16 then
 some (false,())
 else
 bif (inR (1:Int) 8) then
 let v17:(List Yn):=(at_ (.sl yN) y13.1.1 (1:Int))
 let v18:Bool:=(decide ((v17.length:Int) ≠ (1:Int)))
 bif v18 then
 some (false,())
 else
 bif (inR (1:Int) 8) then
 let v19:Bool:=(decide (((at_ .str y10.1 (1:Int)).size:Int) ≠ (32:Int)))
 bif v19 then
 some (false,())
 else
 bif (inR (2:Int) 8) then
 (F34 ()).bind fun y20 =>
 let v21:Bool:=(!(decide ((at_ .str y10.1 (2:Int)) = y20.1)))
 bif v21 then
 some (false,())
 else
 (F13 (y1.1,((([((1:Int),(0,(false,([],(true,(([(0:Int),(0:Int),(-1:Int)]:List Int),())))))),((1:Int),((1:Int),(true,(([(1:Int),(0:Int),(-1:Int)]:List Int),(true,(([(0:Int),(1:Int),(4:Int)]:List Int),()))))))]:List Yr),()),()))).bind fun y22 =>
 bif y22.1 then
 (F16 (y2.1,((([[],([((0:Int),(([(0:Int),(0:Int),(-1:Int)]:List Int),())),((1:Int),(([(0:Int),(1:Int),(4:Int)]:List Int),()))]:List Yn),[],[],[],[],[],[]]:List (List Yn)),()),()))).bind fun y23 =>
 bif y23.1 then
 (F26 (y7.1,(([(1:Int),(0:Int),(-1:Int)]:List Int),()))).bind fun y24 =>
 bif y24.1 then
 let v25:Int:=(IntKind.wrap .i64 ((1:Int) + (y8.1.size:Int)))
 bif (decide (y9.2.1 = v25)) then
 (F13 (y9.1,((([((1:Int),(0,(false,([],(true,(([(0:Int),(0:Int),(-1:Int)]:List Int),())))))),((1:Int),((1:Int),(true,(([(1:Int),(0:Int),(-1:Int)]:List Int),(true,(([(0:Int),(1:Int),(4:Int)]:List Int),()))))))]:List Yr),()),()))).bind fun y26 =>
 bif y26.1 then
 (F21 (y1.1,())).bind fun y27 =>
 bif (decide (y27.1 = (2:Int))) then
 (F35 ((([[],([((1:Int),(([(1:Int),(0:Int),(-1:Int)]:List Int),()))]:List Yn),[],[],[],[],[],[]]:List (List Yn)),()),())).bind fun y28 =>
 bif y28.1 then
 (F19 (y1.1,())).bind fun y29 =>
 bif y29.1 then
 (F36 ((([[],([((0:Int),(([(0:Int),(0:Int),(-1:Int)]:List Int),())),((1:Int),(([(0:Int),(1:Int),(4:Int)]:List Int),()))]:List Yn),[],[],[],[],[],[]]:List (List Yn)),()),(y2.1,()))).bind fun y30 =>
 bif y30.1 then
 (F36 ((([[],([((1:Int),(([(1:Int),(0:Int),(-1:Int)]:List Int),()))]:List Yn),[],[],[],[],[],[]]:List (List Yn)),()),((([[],([((0:Int),(([(0:Int),(0:Int),(-1:Int)]:List Int),())),((1:Int),(([(0:Int),(1:Int),(4:Int)]:List Int),()))]:List Yn),[],[],[],[],[],[]]:List (List Yn)),()),()))).bind fun y31 =>
 bif (!y31.1) then
 (F24 (y1.1,((([((1:Int),(0,(false,([],(true,(([(0:Int),(0:Int),(-1:Int)]:List Int),())))))),((1:Int),((1:Int),(true,(([(1:Int),(0:Int),(-1:Int)]:List Int),(true,(([(0:Int),(1:Int),(4:Int)]:List Int),()))))))]:List Yr),()),()))).bind fun y32 =>
 bif y32.1 then
 (F24 (y1.1,(y4.1,()))).bind fun y33 =>
 some ((!y33.1),())
 else
 some (false,())
 else
 some (false,())
 else
 some (false,())
 else
 some (false,())
 else
 some (false,())
 else
 some (false,())
 else
 some (false,())
 else
 some (false,())
 else
 some (false,())
 else
 some (false,())
 else
 some (false,())
 else none
 else none
 else none
 else none
 else none
 else none
def f7:Option (Bool × Unit):=f7G f12_spec.fn f13_spec.fn f14_spec.fn f16_spec.fn f17_spec.fn f19_spec.fn f21_spec.fn f22_spec.fn f24_spec.fn f26_spec.fn f27_spec.fn f28_spec.fn f29_spec.fn c30_spec.fn f31_spec.fn c32_spec.fn f33_spec.fn f34_spec.fn f35_spec.fn f36_spec.fn
def f7_spec:PSpec:={ args:=[],res:=[.bool],fn:=fun x=>f7  }
noncomputable def f7_code:Code:=Tryz.f7.body.getD .skip
noncomputable def f7_envG (F12:tysDen f12_spec.args→Option (tysDen f12_spec.res)) (F13:tysDen f13_spec.args→Option (tysDen f13_spec.res)) (F14:tysDen f14_spec.args→Option (tysDen f14_spec.res)) (F16:tysDen f16_spec.args→Option (tysDen f16_spec.res)) (F17:tysDen f17_spec.args→Option (tysDen f17_spec.res)) (F19:tysDen f19_spec.args→Option (tysDen f19_spec.res)) (F21:tysDen f21_spec.args→Option (tysDen f21_spec.res)) (F22:tysDen f22_spec.args→Option (tysDen f22_spec.res)) (F24:tysDen f24_spec.args→Option (tysDen f24_spec.res)) (F26:tysDen f26_spec.args→Option (tysDen f26_spec.res)) (F27:tysDen f27_spec.args→Option (tysDen f27_spec.res)) (F28:tysDen f28_spec.args→Option (tysDen f28_spec.res)) (F29:tysDen f29_spec.args→Option (tysDen f29_spec.res)) (Fc30:tysDen c30_spec.args→Option (tysDen c30_spec.res)) (F31:tysDen f31_spec.args→Option (tysDen f31_spec.res)) (Fc32:tysDen c32_spec.args→Option (tysDen c32_spec.res)) (F33:tysDen f33_spec.args→Option (tysDen f33_spec.res)) (F34:tysDen f34_spec.args→Option (tysDen f34_spec.res)) (F35:tysDen f35_spec.args→Option (tysDen f35_spec.res)) (F36:tysDen f36_spec.args→Option (tysDen f36_spec.res)):Env0:={ C:=cfgF,P:=[(12,{ args:=f12_spec.args,res:=f12_spec.res,fn:=F12 }),(13,{ args:=f13_spec.args,res:=f13_spec.res,fn:=F13 }),(14,{ args:=f14_spec.args,res:=f14_spec.res,fn:=F14 }),(16,{ args:=f16_spec.args,res:=f16_spec.res,fn:=F16 }),(17,{ args:=f17_spec.args,res:=f17_spec.res,fn:=F17 }),(19,{ args:=f19_spec.args,res:=f19_spec.res,fn:=F19 }),(21,{ args:=f21_spec.args,res:=f21_spec.res,fn:=F21 }),(22,{ args:=f22_spec.args,res:=f22_spec.res,fn:=F22 }),(24,{ args:=f24_spec.args,res:=f24_spec.res,fn:=F24 }),(26,{ args:=f26_spec.args,res:=f26_spec.res,fn:=F26 }),(27,{ args:=f27_spec.args,res:=f27_spec.res,fn:=F27 }),(28,{ args:=f28_spec.args,res:=f28_spec.res,fn:=F28 }),(29,{ args:=f29_spec.args,res:=f29_spec.res,fn:=F29 }),(30,{ args:=c30_spec.args,res:=c30_spec.res,fn:=Fc30 }),(31,{ args:=f31_spec.args,res:=f31_spec.res,fn:=F31 }),(32,{ args:=c32_spec.args,res:=c32_spec.res,fn:=Fc32 }),(33,{ args:=f33_spec.args,res:=f33_spec.res,fn:=F33 }),(34,{ args:=f34_spec.args,res:=f34_spec.res,fn:=F34 }),(35,{ args:=f35_spec.args,res:=f35_spec.res,fn:=F35 }),(36,{ args:=f36_spec.args,res:=f36_spec.res,fn:=F36 })],L:=[],F:=[(7,Tryz.f7)] }
theorem f7_runG (F12:tysDen f12_spec.args→Option (tysDen f12_spec.res)) (F13:tysDen f13_spec.args→Option (tysDen f13_spec.res)) (F14:tysDen f14_spec.args→Option (tysDen f14_spec.res)) (F16:tysDen f16_spec.args→Option (tysDen f16_spec.res)) (F17:tysDen f17_spec.args→Option (tysDen f17_spec.res)) (F19:tysDen f19_spec.args→Option (tysDen f19_spec.res)) (F21:tysDen f21_spec.args→Option (tysDen f21_spec.res)) (F22:tysDen f22_spec.args→Option (tysDen f22_spec.res)) (F24:tysDen f24_spec.args→Option (tysDen f24_spec.res)) (F26:tysDen f26_spec.args→Option (tysDen f26_spec.res)) (F27:tysDen f27_spec.args→Option (tysDen f27_spec.res)) (F28:tysDen f28_spec.args→Option (tysDen f28_spec.res)) (F29:tysDen f29_spec.args→Option (tysDen f29_spec.res)) (Fc30:tysDen c30_spec.args→Option (tysDen c30_spec.res)) (F31:tysDen f31_spec.args→Option (tysDen f31_spec.res)) (Fc32:tysDen c32_spec.args→Option (tysDen c32_spec.res)) (F33:tysDen f33_spec.args→Option (tysDen f33_spec.res)) (F34:tysDen f34_spec.args→Option (tysDen f34_spec.res)) (F35:tysDen f35_spec.args→Option (tysDen f35_spec.res)) (F36:tysDen f36_spec.args→Option (tysDen f36_spec.res)) (x:tysDen (f7_spec).args):runF (f7_envG F12 F13 F14 F16 F17 F19 F21 F22 F24 F26 F27 F28 F29 Fc30 F31 Fc32 F33 F34 F35 F36) 7 Tryz.f7 f7_code (f7_spec).args (f7_spec).res x = f7G F12 F13 F14 F16 F17 F19 F21 F22 F24 F26 F27 F28 F29 Fc30 F31 Fc32 F33 F34 F35 F36:=by kernel_rfl
noncomputable def f7_env:Env0:=f7_envG f12_spec.fn f13_spec.fn f14_spec.fn f16_spec.fn f17_spec.fn f19_spec.fn f21_spec.fn f22_spec.fn f24_spec.fn f26_spec.fn f27_spec.fn f28_spec.fn f29_spec.fn c30_spec.fn f31_spec.fn c32_spec.fn f33_spec.fn f34_spec.fn f35_spec.fn f36_spec.fn
theorem f7_run (x:tysDen (f7_spec).args):runF f7_env 7 Tryz.f7 f7_code (f7_spec).args (f7_spec).res x = f7_spec.fn x:=f7_runG f12_spec.fn f13_spec.fn f14_spec.fn f16_spec.fn f17_spec.fn f19_spec.fn f21_spec.fn f22_spec.fn f24_spec.fn f26_spec.fn f27_spec.fn f28_spec.fn f29_spec.fn c30_spec.fn f31_spec.fn c32_spec.fn f33_spec.fn f34_spec.fn f35_spec.fn f36_spec.fn x
theorem f7_enter:zQ 7:=zN Tryz.func7
theorem f7_envOK:zE f7_env:=zO cfgF_ok ⟨⟨f12_pure,f12_enter⟩,⟨f13_pure,f13_enter⟩,⟨f14_pure,f14_enter⟩,⟨f16_pure,f16_enter⟩,⟨f17_pure,f17_enter⟩,⟨f19_pure,f19_enter⟩,⟨f21_pure,f21_enter⟩,⟨f22_pure,f22_enter⟩,⟨f24_pure,f24_enter⟩,⟨f26_pure,f26_enter⟩,⟨f27_pure,f27_enter⟩,⟨f28_pure,f28_enter⟩,⟨f29_pure,f29_enter⟩,⟨c30_pure,c30_enter⟩,⟨f31_pure,f31_enter⟩,⟨c32_pure,c32_enter⟩,⟨f33_pure,f33_enter⟩,⟨f34_pure,f34_enter⟩,⟨f35_pure,f35_enter⟩,⟨f36_pure,f36_enter⟩,trivial⟩ trivial ⟨zK Tryz.func7,trivial⟩ trivial
theorem f7_pure:zU 7 f7_spec:=zP f7_envOK Tryz.f7 f7_code f7_run
end
end Go.V.G
namespace Go.V.G
open Go.Proofs
open Go.V.K
def CB:Ct:=([[],[((0:Int),[0,0,-1],()),((1:Int),[0,1,4],())],[],[],[],[],[],[]],())
def WANT:List Rl:=[((1:Int),(0:Int),false,[],true,[0,0,-1],()),((1:Int),(1:Int),true,[1,0,-1],true,[0,1,4],())]
def BACK:List Rl:=[((1:Int),(0:Int),true,[0,0,-1],false,[],()),((1:Int),(1:Int),true,[0,1,4],true,[1,0,-1],())]
def ET:ByteArray:=⟨#[4,2,0,0,2,6,0,0,1,2,2,2,6,2,0,1,2,6,0,2,8]⟩
def made:Ct:=([[],[((3:Int),[3,0,-1],())],[((3:Int),[3,0,-1,0,-1,0,0],())],[((3:Int),[],())],[((3:Int),[3,0,-1,-1,0],())],[((3:Int),[-1,0,0],())],[((3:Int),[-1,0],())],[((3:Int),[0,-1,0],())]],())
theorem sane_run (F12:tysDen f12_spec.args→Option (tysDen f12_spec.res)) (F13:tysDen f13_spec.args→Option (tysDen f13_spec.res)) (F14:tysDen f14_spec.args→Option (tysDen f14_spec.res)) (F16:tysDen f16_spec.args→Option (tysDen f16_spec.res)) (F17:tysDen f17_spec.args→Option (tysDen f17_spec.res)) (F19:tysDen f19_spec.args→Option (tysDen f19_spec.res)) (F21:tysDen f21_spec.args→Option (tysDen f21_spec.res)) (F22:tysDen f22_spec.args→Option (tysDen f22_spec.res)) (F24:tysDen f24_spec.args→Option (tysDen f24_spec.res)) (F26:tysDen f26_spec.args→Option (tysDen f26_spec.res)) (F27:tysDen f27_spec.args→Option (tysDen f27_spec.res)) (F28:tysDen f28_spec.args→Option (tysDen f28_spec.res)) (F29:tysDen f29_spec.args→Option (tysDen f29_spec.res)) (Fc30:tysDen c30_spec.args→Option (tysDen c30_spec.res)) (F31:tysDen f31_spec.args→Option (tysDen f31_spec.res)) (Fc32:tysDen c32_spec.args→Option (tysDen c32_spec.res)) (F33:tysDen f33_spec.args→Option (tysDen f33_spec.res)) (F34:tysDen f34_spec.args→Option (tysDen f34_spec.res)) (F35:tysDen f35_spec.args→Option (tysDen f35_spec.res)) (F36:tysDen f36_spec.args→Option (tysDen f36_spec.res))
  (r1 z w:ByteArray) (hr:r1.size = 32) (hw:w.size = 32)
  (h0:F12 (CA,CB,()) = some ((WANT,()),(0:Int),()))
  (h1:F14 (CA,(WANT,()),()) = some (CB,(0:Int),()))
  (h2:F17 ((WANT,()),()) = some ((BACK,()),(0:Int),()))
  (h3:F22 ((WANT,()),(BACK,()),()) = some (([],()),(0:Int),()))
  (h4:F22 ((WANT,()),(WANT,()),()) = some (([],()),(160:Int),()))
  (h5:F27 (([1,0,-1]:List Int),()) = some ((⟨#[6,2,0,1]⟩:ByteArray),(0:Int),()))
  (h6:F28 ((⟨#[6,2,0,1]⟩:ByteArray),()) = some (([1,0,-1]:List Int),(0:Int),()))
  (h7:F29 ((WANT,()),()) = some (ET,(0:Int),()))
  (h8:Fc30 ((⟨#[120]⟩:ByteArray)++ET,(1:Int),()) = some ((WANT,()),(22:Int),(0:Int),()))
  (h9:F31 (CA,()) = some ([(⟨#[]⟩:ByteArray),r1,z,z,z,z,z,z],(0:Int),()))
  (h10:Fc32 (([((3:Int),((0:Int),()))],[],[],()),()) = some (made,(0:Int),()))
  (h11:Fc32 (([],[],[(1:Int)],()),()) = some ((List.replicate 8 [],()),(160:Int),()))
  (h12:F33 (([],[],[],()),CA,()) = some (w,(0:Int),()))
  (h13:F34 () = some (z,()))
  (h14:F13 ((WANT,()),(WANT,()),()) = some (true,()))
  (h15:F16 (CB,CB,()) = some (true,()))
  (h16:F26 (([1,0,-1]:List Int),([1,0,-1]:List Int),()) = some (true,()))
  (h17:F21 ((WANT,()),()) = some ((2:Int),()))
  (h18:F35 (CA,()) = some (true,()))
  (h19:F19 ((WANT,()),()) = some (true,()))
  (h20:F36 (CB,CB,()) = some (true,()))
  (h21:F36 (CA,CB,()) = some (false,()))
  (h22:F24 ((WANT,()),(WANT,()),()) = some (true,()))
  (h23:F24 ((WANT,()),([],()),()) = some (false,())) :
  f7G F12 F13 F14 F16 F17 F19 F21 F22 F24 F26 F27 F28 F29 Fc30 F31 Fc32 F33 F34 F35 F36 = some (true,()):=by
 unfold f7G
 refine bind_step h0 ?_
 refine bind_step h1 ?_
 refine bind_step h2 ?_
 refine bind_step h3 ?_
 refine bind_step h4 ?_
 refine bind_step h5 ?_
 refine bind_step h6 ?_
 refine bind_step h7 ?_
 refine bind_step h8 ?_
 refine bind_step h9 ?_
 have c1:decide ((⟨#[6,2,0,1]⟩:ByteArray) = ⟨#[6,2,0,1]⟩) = true:=zT rfl
 show (bif !(decide ((⟨#[6,2,0,1]⟩:ByteArray) = ⟨#[6,2,0,1]⟩)) then some (false,()) else _) = _
 rw [c1,Bool.not_true,cond_false]
 refine bind_step h10 ?_
 refine bind_step h11 ?_
 refine bind_step h12 ?_
 show (bif decide ((w.size:Int) ≠ 32) then some (false,()) else _) = _
 rw [zF (by omega),cond_false]
 show (bif decide ((r1.size:Int) ≠ 32) then some (false,()) else _) = _
 rw [zF (by omega),cond_false]
 refine bind_step h13 ?_
 show (bif !(decide (z = z)) then some (false,()) else _) = _
 rw [zT rfl,Bool.not_true,cond_false]
 refine bind_step h14 ?_
 refine bind_step h15 ?_
 refine bind_step h16 ?_
 refine bind_step h14 ?_
 refine bind_step h17 ?_
 refine bind_step h18 ?_
 refine bind_step h19 ?_
 refine bind_step h20 ?_
 refine bind_step h21 ?_
 refine bind_step h22 ?_
 refine bind_step h23 ?_
 rfl
theorem CB_sm:smC CB:=by
 simp [smC,smR,CB]
 rintro a b (⟨rfl,rfl⟩ | ⟨rfl,rfl⟩) <;> simp
theorem WANT_sm:smD WANT:=by simp [smD,smRl,WANT,K.bf,K.af]
theorem BACK_sm:smD BACK:=by simp [smD,smRl,BACK,K.bf,K.af]
theorem CB_valid:validC CB = true:=by kernel_rfl
theorem WANT_valid:validD WANT = true:=by kernel_rfl
theorem BACK_valid:validD BACK = true:=by kernel_rfl
theorem dif_AB:dif (la CA) (la CB) = WANT:=by kernel_rfl
theorem fit_A:(kinds.all fun k=>rowFit (la CA) WANT k) = true:=by kernel_rfl
theorem new_A:([] :: kinds.map (fun k=>rowNew (la CA) WANT k):List (List Nm)) = CB.1:=by kernel_rfl
theorem clash_1:clash WANT BACK = false:=by kernel_rfl
theorem clash_2:clash WANT WANT = true:=by kernel_rfl
theorem comp_1:comp WANT BACK = []:=by kernel_rfl
theorem s12:f12 CA CB = some ((WANT,()),(0:Int),()):=by
 rw [f12_eq CA CB CA_sm CB_sm,CA_valid,CB_valid,dif_AB]; rfl
theorem s14:f14 CA (WANT,()) = some (CB,(0:Int),()):=by
 rw [f14_eq CA CA_sm WANT WANT_sm (f19_eq _ WANT_sm) validD_iff.1,CA_valid,WANT_valid,fit_A,new_A]; rfl
theorem s17:f17 (WANT,()) = some ((BACK,()),(0:Int),()):=by
 rw [f17_eq WANT WANT_sm,WANT_valid]; rfl
theorem s22a:f22 (WANT,()) (BACK,()) = some (([],()),(0:Int),()):=by
 rw [f22_eq WANT BACK WANT_sm BACK_sm,WANT_valid,BACK_valid,clash_1,comp_1]; rfl
theorem s22b:f22 (WANT,()) (WANT,()) = some (([],()),(160:Int),()):=by
 rw [f22_eq WANT WANT WANT_sm WANT_sm,WANT_valid,clash_2]; rfl
theorem s27:f27 [1,0,-1] = some ((⟨#[6,2,0,1]⟩:ByteArray),(0:Int),()):=by kernel_rfl
theorem s28:f28 (⟨#[6,2,0,1]⟩:ByteArray) = some (([1,0,-1]:List Int),(0:Int),()):=by kernel_rfl
theorem s29:f29 (WANT,()) = some (ET,(0:Int),()):=by
 unfold f29
 rw [f19_eq WANT WANT_sm,WANT_valid,Option.bind_some]
 kernel_rfl
theorem s30:c30 ((⟨#[120]⟩:ByteArray)++ET) (1:Int) = some ((WANT,()),(22:Int),(0:Int),()):=by kernel_rfl
theorem s32a:c32 ([((3:Int),((0:Int),()))],[],[],()) = some (made,(0:Int),()):=by kernel_rfl
theorem s32b:c32 ([],[],[(1:Int)],()) = some ((List.replicate 8 [],()),(160:Int),()):=by kernel_rfl
theorem s13:f13 (WANT,()) (WANT,()) = some (true,()):=by rw [f13_eq WANT WANT WANT_sm]; simp
theorem s16:f16 CB CB = some (true,()):=by rw [f16_eq CB CB CB_sm CB_sm.1]; simp
theorem s26:f26 [1,0,-1] [1,0,-1] = some (true,()):=by rw [f26_eq _ _ (by simp)]; simp
theorem s21:f21 (WANT,()) = some ((2:Int),()):=by kernel_rfl
theorem s19:f19 (WANT,()) = some (true,()):=by rw [f19_eq WANT WANT_sm,WANT_valid]
theorem s36a:f36 CB CB = some (true,()):=by kernel_rfl
theorem s36b:f36 CA CB = some (false,()):=by kernel_rfl
theorem s24a:f24 (WANT,()) (WANT,()) = some (true,()):=by kernel_rfl
theorem s24b:f24 (WANT,()) ([],()) = some (false,()):=by kernel_rfl
theorem sp27 (l:List Int) (r:Option (tysDen f27_spec.res)) (h:f27 l = r):f27_spec.fn (l,()) = r:=h
theorem sp28 (l:ByteArray) (r:Option (tysDen f28_spec.res)) (h:f28 l = r):f28_spec.fn (l,()) = r:=h
theorem sp29 (l:List Rl × Unit) (r:Option (tysDen f29_spec.res)) (h:f29 l = r):f29_spec.fn (l,()) = r:=h
theorem sp30 (l:ByteArray) (n:Int) (r:Option (tysDen c30_spec.res)) (h:c30 l n = r):c30_spec.fn (l,n,()) = r:=h
theorem sp26 (l n:List Int) (r:Option (tysDen f26_spec.res)) (h:f26 l n = r):f26_spec.fn (l,n,()) = r:=h
theorem sp31 (l:Ct) (r:Option (tysDen f31_spec.res)) (h:f31 l = r):f31_spec.fn (l,()) = r:=h
theorem sp32 (l:Ty.den (yG)) (r:Option (tysDen c32_spec.res)) (h:c32 l = r):c32_spec.fn (l,()) = r:=h
theorem sp33 (a:List Yv × (List Yd × (List Int × Unit))) (l:Ct) (r:Option (tysDen f33_spec.res)) (h:f33 a l = r):f33_spec.fn (a,l,()) = r:=h
theorem sp34 (r:Option (tysDen f34_spec.res)) (h:f34 = r):f34_spec.fn () = r:=h
theorem sane_eq:f7 = some (true,()):=by
 obtain ⟨w,hw1,hw2⟩:=f33_CA
 exact sane_run f12_spec.fn f13_spec.fn f14_spec.fn f16_spec.fn f17_spec.fn f19_spec.fn f21_spec.fn f22_spec.fn f24_spec.fn f26_spec.fn f27_spec.fn f28_spec.fn f29_spec.fn c30_spec.fn f31_spec.fn c32_spec.fn f33_spec.fn f34_spec.fn f35_spec.fn f36_spec.fn R1 TR.zeroD w R1_size hw2
  s12 s14 s17 s22a s22b (sp27 _ _ s27) (sp28 _ _ s28) (sp29 _ _ s29) (sp30 _ _ _ s30) (sp31 _ _ f31_CA) (sp32 _ _ s32a) (sp32 _ _ s32b) (sp33 _ _ _ hw1) (sp34 _ TR.zero_eq.2) s13 s16 (sp26 _ _ _ s26) s21 f35_CA s19 s36a s36b s24a s24b
end Go.V.G
