/- Part of the proof. -/
import Derived.WalkKit
import Derived.Orders
import Derived.Laws.IdiomRangeMap
set_option linter.all false
set_option linter.unusedVariables false
set_option linter.unusedSectionVars false
set_option linter.unusedSimpArgs false
namespace Go.V
theorem sI {α : Type _} (a b : α) : (some a = some b) = (a = b) := Option.some.injEq a b
theorem sA (a b : Bool) : ((a && b) = true) = (a = true ∧ b = true) := Bool.and_eq_true a b
theorem sC {α : Type _} (a : α) (b : List α) (c : α) (d : List α) : (a :: b = c :: d) = (a = c ∧ b = d) := List.cons.injEq a b c d
theorem sM {α β : Type _} (a : α) (b : β) (c : α) (d : β) : ((a, b) = (c, d)) = (a = c ∧ b = d) := Prod.mk.injEq a b c d
theorem sB {n m : Nat} (h : Nat.beq n m = true) : n = m := Nat.eq_of_beq_eq_true h
theorem sF : (false = true) = False := Bool.false_eq_true
end Go.V
namespace Go.V
inductive Ty where
 | int (k:IntKind) | bool | str | sl (e:Ty) | unit | pair (a b:Ty) | arr (n:Nat) (e:Ty)
 deriving DecidableEq
@[reducible] def Ty.den:Ty→Type
 | .int _=>Int
 | .bool=>Bool
 | .str=>ByteArray
 | .sl e=>List e.den
 | .unit=>Unit
 | .pair a b=>a.den × b.den
 | .arr _ e=>List e.den
def Ty.size:Ty→Nat
 | .int _ | .bool | .str | .sl _=>1
 | .unit=>0
 | .pair a b=>a.size + b.size
 | .arr n e=>n * e.size
def Ty.dflt:(T:Ty)→T.den
 | .int _=>(0:Int)
 | .bool=>false
 | .str=>(⟨#[]⟩:ByteArray)
 | .sl _=>[]
 | .unit=>()
 | .pair a b=>(a.dflt,b.dflt)
 | .arr n e=>List.replicate n e.dflt
def at_ (T:Ty) (l:List T.den) (i:Int):T.den:=l.getD i.toNat T.dflt
inductive Win where
 | whole
 | part (off n:Nat) (full:Bool)
def Win.app {α:Type}:Win→List α→List α
 | .whole,l=>l
 | .part off n _,l=>(l.drop off).take n
def Win.isWhole:Win→Bool
 | .whole=>true
 | .part _ _ full=>full
structure Stp where
 n:Nat
 sz:Nat
 i:Int
 o:Nat
inductive AV where
 | val (T:Ty) (x:T.den)
 | full (T:Ty) (l:List T.den)
 | nn (T:Ty) (l:List T.den)
 | nils
 | agg (gs:List AV)
 | tup (vs:List AV)
 | nilp
 | ptr (b off:Nat) (p:List Stp)
 | rptr (b:Nat) (i:Int) (o:Nat)
 | eptr (gs:List AV)
 | row (b:Nat) (w:Win)
 | vsl (b off n lo len:Nat)
 | fn (f:FuncId) (caps:List AV)
 | mfn (f:FuncId) (caps:List AV)
 | nilf
 | yld (b:Nat)
 | iface (t:TypeId) (v:AV)
 | nili
 | nilm
 | mp (b:Nat)
 | junk
inductive Box where
 | var (gs:List AV)
 | row (T:Ty) (fz:Bool) (l:List T.den)
 | map (K V:Ty) (l:List (K.den × V.den))
 | fmap (K V:Ty) (l:List (K.den × V.den))
 | iter (K V:Ty) (l:List (K.den × V.den)) (cur:Option (K.den × V.den))
 | loop (busy:Bool) (f id:Nat) (env:List (Nat × AV))
 | dead
abbrev Env:=List (Nat × AV)
abbrev Bxs:=List (Nat × Box)
structure St where
 env:Env
 stk:List Env
 bxs:Bxs
def find {α:Type}:List (Nat × α)→Nat→Option α
 | [],_=>none
 | (k,v) :: l,n=>bif Nat.beq k n then some v else find l n
def setB:Bxs→Nat→Box→Bxs
 | [],k,b=>[(k,b)]
 | (j,c) :: l,k,b=>bif Nat.beq j k then (k,b) :: l else (j,c) :: setB l k b
def Box.toMap:Box→Option ((K:Ty) × (V:Ty) × List (K.den × V.den))
 | .map K V l=>some ⟨K,V,l⟩
 | .fmap K V l=>some ⟨K,V,l⟩
 | .iter _ _ _ _=>none
 | .var _=>none
 | .row _ _ _=>none
 | .loop _ _ _ _=>none
 | .dead=>none
def Box.toMapW:Box→Option ((K:Ty) × (V:Ty) × List (K.den × V.den))
 | .map K V l=>some ⟨K,V,l⟩
 | .fmap _ _ _=>none
 | .iter _ _ _ _=>none
 | .var _=>none
 | .row _ _ _=>none
 | .loop _ _ _ _=>none
 | .dead=>none
def Box.toMapF:Box→Option ((K:Ty) × (V:Ty) × List (K.den × V.den))
 | .map _ _ _=>none
 | .fmap K V l=>some ⟨K,V,l⟩
 | .iter _ _ _ _=>none
 | .var _=>none
 | .row _ _ _=>none
 | .loop _ _ _ _=>none
 | .dead=>none
def Box.toIter:Box→Option ((K:Ty) × (V:Ty) × List (K.den × V.den))
 | .map _ _ _=>none
 | .fmap _ _ _=>none
 | .iter K V l _=>some ⟨K,V,l⟩
 | .var _=>none
 | .row _ _ _=>none
 | .loop _ _ _ _=>none
 | .dead=>none
def Box.toCur:Box→Option ((K:Ty) × (V:Ty) × (K.den × V.den))
 | .map _ _ _=>none
 | .fmap _ _ _=>none
 | .iter K V _ c=>match c with
  | some c=>some ⟨K,V,c⟩
  | none=>none
 | .var _=>none
 | .row _ _ _=>none
 | .loop _ _ _ _=>none
 | .dead=>none
def curAt (bx:Bxs) (b:Nat):Option ((K:Ty) × (V:Ty) × (K.den × V.den)) :=
 match find bx b with
 | some x=>x.toCur
 | none=>none
def zjL (bx:Bxs) (b:Nat):Option ((K:Ty) × (V:Ty) × List (K.den × V.den)) :=
 match find bx b with
 | some x=>x.toMapW
 | none=>none
def iterAt (bx:Bxs) (b:Nat):Option ((K:Ty) × (V:Ty) × List (K.den × V.den)) :=
 match find bx b with
 | some x=>x.toIter
 | none=>none
def mapAt (bx:Bxs) (b:Nat):Option ((K:Ty) × (V:Ty) × List (K.den × V.den)) :=
 match find bx b with
 | some x=>x.toMap
 | none=>none
def AV.size:AV→Nat
 | .val T _=>T.size
 | _=>1
def zd5:List AV→Nat
 | []=>0
 | g :: gs=>g.size + zd5 gs
def Ty.gs:(T:Ty)→T.den→List AV
 | .unit,_=>[]
 | .pair a b,x=>a.gs x.1++b.gs x.2
 | .int k,x=>[.val (.int k) x]
 | .bool,x=>[.val .bool x]
 | .str,x=>[.val .str x]
 | .sl e,x=>[.val (.sl e) x]
 | .arr n e,x=>[.val (.arr n e) x]
def AV.gs:AV→List AV
 | .agg gs=>gs
 | v=>[v]
def Ty.av (T:Ty) (x:T.den):AV :=
 match T,x with
 | .pair a b,x=>.agg (Ty.gs (.pair a b) x)
 | .unit,_=>.agg []
 | T,x=>.val T x
def zbB:List AV→Nat→Option (List AV)
 | gs,0=>some gs
 | [],_ + 1=>none
 | g :: gs,n + 1=>bif Nat.ble g.size (n + 1) then zbB gs (n + 1 - g.size) else none
def zfr:List AV→Nat→Option (List AV)
 | _,0=>some []
 | [],_ + 1=>none
 | g :: gs,n + 1=>bif Nat.ble g.size (n + 1) then (zfr gs (n + 1 - g.size)).map (g :: ·) else none
def putGs:List AV→Nat→List AV→Option (List AV)
 | gs,0,new=>(zbB gs (zd5 new)).map (new++·)
 | [],_ + 1,_=>none
 | g :: gs,n + 1,new=>bif Nat.ble g.size (n + 1) then (putGs gs (n + 1 - g.size) new).map (g :: ·) else none
def conv (bx:Bxs) (T:Ty) (v:AV):Option T.den :=
 match v with
 | .val S x=>if h:S = T then some (h ▸ x) else none
 | .full S l=>if h:Ty.sl S = T then some (h ▸ (show (Ty.sl S).den from l)) else none
 | .nn S l=>if h:Ty.sl S = T then some (h ▸ (show (Ty.sl S).den from l)) else none
 | .nils=>match T with
  | .sl _=>some []
  | _=>none
 | .row b w=>match find bx b with
  | some (.row S true l)=>if h:Ty.sl S = T then some (h ▸ (show (Ty.sl S).den from w.app l)) else none
  | _=>none
 | _=>none
def rdN {α:Type} (f:List AV→Option (α × List AV)):Nat→List AV→Option (List α × List AV)
 | 0,l=>some ([],l)
 | n + 1,l=>match f l with
  | some (x,l)=>match rdN f n l with
   | some (xs,l)=>some (x :: xs,l)
   | none=>none
  | none=>none
def Ty.rd (bx:Bxs):(T:Ty)→List AV→Option (T.den × List AV)
 | .unit,l=>some ((),l)
 | .pair a b,l=>match a.rd bx l with
  | some (x,l)=>match b.rd bx l with
   | some (y,l)=>some ((x,y),l)
   | none=>none
  | none=>none
 | .arr n e,v :: l=>match conv bx (.arr n e) v with
  | some x=>some (x,l)
  | none=>rdN (e.rd bx) n (v :: l)
 | T,v :: l=>match conv bx T v with
  | some x=>some (x,l)
  | none=>none
 | _,[]=>none
def AV.isAgg:AV→Bool
 | .agg _=>true
 | .val (.arr _ _) _=>true
 | _=>false
def Ty.isAgg:Ty→Bool
 | .pair _ _ | .unit | .arr _ _=>true
 | _=>false
def norm (bx:Bxs) (T:Ty) (v:AV):Option T.den :=
 match T.rd bx v.gs with
 | some (x,[])=>bif v.isAgg == T.isAgg then some x else none
 | _=>none
def Ty.put (bx:Bxs) (T:Ty) (x:T.den) (o:Nat) (new:List AV):Option T.den :=
 match putGs (T.gs x) o new with
 | some gs=>match T.rd bx gs with
  | some (y,[])=>some y
  | _=>none
 | none=>none
def AV.okGs:AV→Bool
 | .junk | .tup _=>false
 | _=>true
def AV.single:AV→Bool
 | .agg _ | .tup _ | .junk=>false
 | .val (.arr _ _) _ | .val (.pair _ _) _ | .val .unit _=>false
 | _=>true
inductive UT where
 | int (k:IntKind) | bool | str | ptr (e:Nat) | sl (e:Nat) | arr (n e:Nat) | st (fs:List (Nat × Nat))
 | fn | iface | map (k e:Nat) | tup | oth
structure HSpec where
 params:List Ty
 res:List Ty
 fn:List AV→Option (List AV)
structure Fun where
 code:Code
 ntmps:Nat
 res:List (ResultVar)
 np:Nat
structure Cfg where
 unders:List UT
 sizes:List Nat
 tys:List (Option Ty)
 bytes:List Nat
 zeros:List (Option (List AV))
 glob:Nat→Option AV
 eqs:List Nat:=[]
 eqa:List Nat:=[]
 frz:List Nat:=[]
 own:List Nat:=[]
def Cfg.under (C:Cfg) (t:Nat):UT:=C.unders.getD t .oth
def Cfg.size (C:Cfg) (t:Nat):Nat:=C.sizes.getD t 0
def Cfg.ty (C:Cfg) (t:Nat):Option Ty:=C.tys.getD t none
def Cfg.zero (C:Cfg) (t:Nat):Option (List AV):=C.zeros.getD t none
def UT.agg:UT→Bool
 | .st _ | .arr _ _=>true
 | _=>false
mutual
def ziS:Value→Option AV
 | .int k n=>some (.val (.int k) n)
 | .bool b=>some (.val .bool b)
 | .string s=>some (.val .str s)
 | .slice none 0 0=>some .nils
 | .pointer none=>some .nilp
 | .nilFunc=>some .nilf
 | .nilIface=>some .nili
 | .map none=>some .nilm
 | _=>none
end
def ev (C:Cfg) (env:Env):Operand→Option AV
 | .tmp t=>find env t
 | .const v=>ziS v
 | .global g=>C.glob g
 | .func f=>some (.fn f [])
inductive Eff where
 | none
 | add (k:Nat) (b:Box)
 | upd (k:Nat) (b:Box)
 | app (k:Nat) (b:Box)
mutual
def AV.has (k:Nat):AV→Bool
 | .row b _=>Nat.beq b k
 | .rptr b _ _=>Nat.beq b k
 | .agg gs=>hasL k gs
 | .tup gs=>hasL k gs
 | .fn _ gs=>hasL k gs
 | .mfn _ gs=>hasL k gs
 | .iface _ v=>v.has k
 | _=>false
def hasL (k:Nat):List AV→Bool
 | []=>false
 | g :: gs=>g.has k || hasL k gs
end
def AV.stale (k:Nat) (v:AV):AV:=bif v.has k then .junk else v
def zjM (k:Nat):List AV→List AV
 | []=>[]
 | g :: gs=>g.stale k :: zjM k gs
def zdc (k:Nat):Env→Env
 | []=>[]
 | (n,v) :: l=>(n,v.stale k) :: zdc k l
def zgo (k:Nat):List Env→List Env
 | []=>[]
 | e :: l=>zdc k e :: zgo k l
def zcm (k:Nat):Bxs→Bxs
 | []=>[]
 | (n,.var gs) :: l=>(n,.var (zjM k gs)) :: zcm k l
 | (n,.loop u f i env) :: l=>(n,.loop u f i (zdc k env)) :: zcm k l
 | (n,b) :: l=>(n,b) :: zcm k l
def Eff.apply (e:Eff) (s:St):St :=
 match e with
 | .none=>s
 | .add k b=>{ s with bxs:=(k,b) :: s.bxs }
 | .upd k b=>{ s with bxs:=setB s.bxs k b }
 | .app k b=>{ env:=zdc k s.env,stk:=zgo k s.stk,bxs:=setB (zcm k s.bxs) k b }
def shlV (k:IntKind) (x y:Int):Int:=k.wrap (x * 2 ^ (min y.toNat k.bits))
def shrV (k:IntKind) (x y:Int):Int:=x.fdiv (2 ^ (min y.toNat k.bits))
def andV (k:IntKind) (x y:Int):Int:=k.wrap (BitVec.ofInt k.bits x &&& BitVec.ofInt k.bits y).toNat
def orV (k:IntKind) (x y:Int):Int:=k.wrap (BitVec.ofInt k.bits x ||| BitVec.ofInt k.bits y).toNat
def xorV (k:IntKind) (x y:Int):Int:=k.wrap (BitVec.ofInt k.bits x ^^^ BitVec.ofInt k.bits y).toNat
def zn8 (k:IntKind) (x y:Int):Int:=k.wrap (BitVec.ofInt k.bits x &&& ~~~ BitVec.ofInt k.bits y).toNat
abbrev R3:=Option (Bool × AV × Eff)
def ok (v:AV):R3:=some (true,v,.none)
def okIf (c:Bool) (v:AV):R3:=some (c,v,.none)
def okB (b:Bool):R3:=some (true,.val .bool b,.none)
def intOp (op:BinOp) (k:IntKind) (x y:Int):R3 :=
 match op with
 | .add=>ok (.val (.int k) (k.wrap (x + y)))
 | .sub=>ok (.val (.int k) (k.wrap (x - y)))
 | .mul=>ok (.val (.int k) (k.wrap (x * y)))
 | .quo=>okIf (decide (y ≠ 0)) (.val (.int k) (k.wrap (x.tdiv y)))
 | .rem=>okIf (decide (y ≠ 0)) (.val (.int k) (x.tmod y))
 | .and=>ok (.val (.int k) (andV k x y))
 | .or=>ok (.val (.int k) (orV k x y))
 | .xor=>ok (.val (.int k) (xorV k x y))
 | .andNot=>ok (.val (.int k) (zn8 k x y))
 | .eql=>okB (decide (x = y))
 | .neq=>okB (decide (x ≠ y))
 | .lss=>okB (decide (x < y))
 | .leq=>okB (decide (x≤y))
 | .gtr=>okB (decide (x > y))
 | .geq=>okB (decide (x ≥ y))
 | .shl=>okIf (decide (0≤y)) (.val (.int k) (shlV k x y))
 | .shr=>okIf (decide (0≤y)) (.val (.int k) (shrV k x y))
def catOk (x y:ByteArray):Bool:=decide (x.size + y.size≤9223372036854775807)
def strLt (x y:ByteArray):Bool:=Op.bytesLess x.toList y.toList
def strOp (op:BinOp) (x y:ByteArray):R3 :=
 match op with
 | .add=>okIf (catOk x y) (.val .str (x++y))
 | .eql=>okB (decide (x = y))
 | .neq=>okB (!decide (x = y))
 | .lss=>okB (strLt x y)
 | .leq=>okB (strLt x y || decide (x = y))
 | .gtr=>okB (!(strLt x y || decide (x = y)))
 | .geq=>okB (!strLt x y)
 | _=>none
def eqGs (C:Cfg):List (Nat × Nat)→List AV→List AV→Option Bool
 | [],[],[]=>some true
 | (_,t) :: fs,.val (.int k) x :: a,.val (.int j) y :: b=>match C.under t with
  | .int _=>if k = j then (eqGs C fs a b).map (decide ((show Int from x) = (show Int from y)) && ·) else none
  | _=>none
 | (_,t) :: fs,.val .bool x :: a,.val .bool y :: b=>match C.under t with
  | .bool=>(eqGs C fs a b).map (decide ((show Bool from x) = (show Bool from y)) && ·)
  | _=>none
 | (_,t) :: fs,.val .str x :: a,.val .str y :: b=>match C.under t with
  | .str=>(eqGs C fs a b).map (decide ((show ByteArray from x) = (show ByteArray from y)) && ·)
  | _=>none
 | _,_,_=>none
def eqV (op:BinOp) (c:Bool):R3 :=
 match op with
 | .eql=>okB c
 | .neq=>okB (!c)
 | _=>none
def binV (C:Cfg) (op:BinOp) (t:Nat) (x y:AV):R3 :=
 match x,y with
 | .val (.int k) a,.val (.int j) b=>match op with
  | .shl | .shr=>intOp op k a b
  | _=>if k = j then intOp op k a b else none
 | .val .str a,.val .str b=>strOp op a b
 | .val .bool a,.val .bool b=>match C.under t with
  | .bool=>eqV op (decide ((show Bool from a) = (show Bool from b)))
  | _=>none
 | .nilp,.nilp=>match C.under t with
  | .ptr _=>eqV op true
  | _=>none
 | .ptr ..,.nilp | .rptr ..,.nilp | .eptr ..,.nilp=>match C.under t with
  | .ptr _=>eqV op false
  | _=>none
 | .nils,.nils=>match C.under t with
  | .sl _=>eqV op true
  | _=>none
 | .nn ..,.nils=>match C.under t with
  | .sl _=>eqV op false
  | _=>none
 | .nilf,.nilf=>match C.under t with
  | .fn=>eqV op true
  | _=>none
 | .fn ..,.nilf=>match C.under t with
  | .fn=>eqV op false
  | _=>none
 | .val (.arr n (.int k)) a,.val (.arr m (.int j)) b=>match C.under t with
  | .arr q e=>match C.under e with
   | .int i=>if (n = m∧k = j∧i = k)∧(q = n∧C.size e = 1∧C.eqa.contains t = true) then eqV op (decide ((show List Int from a) = (show List Int from b))) else none
   | _=>none
  | _=>none
 | .agg a,.agg b=>match C.under t with
  | .st fs=>if C.eqs.contains t = true then match eqGs C fs a b with
    | some c=>eqV op c
    | none=>none
   else none
  | _=>none
 | _,_=>none
def unV (op:UnOp) (x:AV):R3 :=
 match op,x with
 | .neg,.val (.int k) n=>ok (.val (.int k) (k.wrap (0 - n)))
 | .xor,.val (.int k) n=>ok (.val (.int k) (xorV k (if k.signed then -1 else k.max) n))
 | .not,.val .bool b=>ok (.val .bool (!b))
 | _,_=>none
def viewT (C:Cfg) (bx:Bxs) (e:Nat) (v:AV):Option ((T:Ty) × List T.den) :=
 match v with
 | .val (.sl T) l=>some ⟨T,l⟩
 | .full T l=>some ⟨T,l⟩
 | .nn T l=>some ⟨T,l⟩
 | .nils=>match C.ty e with
  | some T=>some ⟨T,[]⟩
  | none=>none
 | .row b w=>match find bx b with
  | some (.row T _ l)=>some ⟨T,w.app l⟩
  | _=>none
 | _=>none
def ofBytes (l:List Int):ByteArray:=⟨(l.map fun n=>UInt8.ofNat n.toNat).toArray⟩
def zau (s:ByteArray):List Int:=s.data.toList.map fun b=>(b.toNat:Int)
def byteAt (s:ByteArray) (i:Int):Int:=((s.data.toList.getD i.toNat 0).toNat:Int)
def inR (i:Int) (n:Nat):Bool:=decide (0≤i) && decide (i < n)
def gsAt:List AV→List Stp→Option (List AV)
 | gs,[]=>some gs
 | .val (.arr n T) l :: _,s :: p=>if n = s.n∧T.size = s.sz then match zbB (T.gs (at_ T l s.i)) s.o with
   | some gs=>gsAt gs p
   | none=>none
  else none
 | gs,s :: p=>match zbB gs (s.i.toNat * s.sz + s.o) with
  | some gs=>gsAt gs p
  | none=>none
def loadAt (C:Cfg) (t:Nat) (gs:List AV):R3 :=
 match C.under t with
 | .st _=>if C.size t = 0 then (if C.ty t = some .unit then ok (.agg []) else none) else match zfr gs (C.size t) with
  | some gs=>ok (.agg gs)
  | none=>none
 | .arr n _=>match gs with
  | .val (.arr m T) l :: _=>if n = m∧C.size t = m * T.size∧C.size t ≠ 0 then ok (.val (.arr m T) l) else none
  | gs=>if C.size t = 0 then none else match zfr gs (C.size t) with
   | some gs=>ok (.agg gs)
   | none=>none
 | .oth | .tup=>none
 | _=>match gs with
  | g :: _=>if g.single = true then ok g else none
  | []=>none
def loadV (C:Cfg) (bx:Bxs) (t:Nat) (a:AV):R3 :=
 match a with
 | .eptr gs=>loadAt C t gs
 | .ptr b off p=>match find bx b with
  | some (.var gs)=>match zbB gs off with
   | some gs=>match gsAt gs p with
    | some gs=>loadAt C t gs
    | none=>none
   | none=>none
  | _=>none
 | .rptr b i o=>match find bx b with
  | some (.row T _ l)=>match zbB (T.gs (at_ T l i)) o with
   | some gs=>loadAt C t gs
   | none=>none
  | _=>none
 | _=>none
def exGs (T:Ty) (l:List T.den):Nat→Nat→List AV
 | 0,_=>[]
 | k + 1,i=>T.gs (l.getD i T.dflt)++exGs T l k (i + 1)
def putAt (bx:Bxs):List AV→Nat→List Stp→List AV→Option (List AV)
 | gs,off,[],new=>putGs gs off new
 | gs,off,s :: p,new=>match zbB gs off with
  | some (.val (.arr n T) l :: _)=>if n = s.n∧T.size = s.sz then
    match putAt bx (T.gs (at_ T l s.i)) s.o p new with
    | some es=>match T.rd bx es with
     | some (y,[])=>putGs gs off [.val (.arr n T) (l.set s.i.toNat y)]
     | _=>match putGs gs off (exGs T l n 0) with
      | some gs=>putGs gs (off + s.i.toNat * s.sz) es
      | none=>none
    | none=>none
   else none
  | some _=>putAt bx gs (off + (s.i.toNat * s.sz + s.o)) p new
  | none=>none
def zla (C:Cfg) (bx:Bxs) (t:Nat) (a v:AV):R3 :=
 if v.okGs = true∧zd5 v.gs = C.size t∧C.size t ≠ 0 then
  match a with
  | .ptr b off p=>match find bx b with
   | some (.var gs)=>match putAt bx gs off p v.gs with
    | some gs=>some (true,.tup [],.upd b (.var gs))
    | none=>none
   | _=>none
  | .rptr b i o=>match find bx b with
   | some (.row T false l)=>match T.put bx (at_ T l i) o v.gs with
    | some y=>some (true,.tup [],.upd b (.row T false (l.set i.toNat y)))
    | none=>none
   | _=>none
  | _=>none
 else match v with
  | .agg []=>match a with
   | .ptr b _ []=>if C.ty t = some .unit then match find bx b with
     | some (.var _)=>ok (.tup [])
     | _=>none
    else none
   | _=>none
  | _=>none
def zd6 (C:Cfg) (s f:Nat):Option (Nat × Nat) :=
 match C.under s with
 | .st fs=>fs[f]?
 | _=>none
def addP:List Stp→Nat→List Stp
 | [],_=>[]
 | [s],o=>[{ s with o:=s.o + o }]
 | s :: p,o=>s :: addP p o
def zdv (C:Cfg) (s:Nat) (a:AV) (f:Nat):R3 :=
 match zd6 C s f with
 | some (o,ft)=>if C.size ft = 0 then none else match a with
  | .eptr gs=>match zbB gs o with
   | some gs=>ok (.eptr gs)
   | none=>none
  | .ptr b off []=>ok (.ptr b (off + o) [])
  | .ptr b off p=>ok (.ptr b off (addP p o))
  | .rptr b i j=>ok (.rptr b i (j + o))
  | _=>none
 | none=>none
def zlb (C:Cfg) (s:Nat) (x:AV) (f:Nat):R3 :=
 match zd6 C s f,x with
 | some (o,t),.agg gs=>match zbB gs o with
  | some gs=>loadAt C t gs
  | none=>none
 | _,_=>none
def idx (v:AV):Option Int :=
 match v with
 | .val (.int _) i=>some i
 | _=>none
def zbE (C:Cfg) (bx:Bxs) (t:Nat) (a iv:AV):R3 :=
 match idx iv with
 | none=>none
 | some i=>match C.under t with
  | .arr n e=>if C.size e = 0 then none else match a with
   | .eptr (.val (.arr m T) l :: _)=>if n = m∧T.size = C.size e then okIf (inR i n) (.eptr (T.gs (at_ T l i))) else none
   | .ptr b off p=>okIf (inR i n) (.ptr b off (p++[⟨n,C.size e,i,0⟩]))
   | _=>none
  | .sl e=>if C.size e = 0 then none else match a with
   | .row b .whole=>match find bx b with
    | some (.row T _ l)=>if T.size = C.size e then okIf (inR i l.length) (.rptr b i 0) else none
    | _=>none
   | .row b (.part off n _)=>match find bx b with
    | some (.row T _ _)=>if T.size = C.size e then okIf (inR i n) (.rptr b (off + i) 0) else none
    | _=>none
   | .vsl b off m lo n=>if C.size e = 1 then okIf (inR i n) (.ptr b off [⟨m,1,lo + i,0⟩]) else none
   | a=>match viewT C bx e a with
    | some ⟨T,l⟩=>if T.size = C.size e then okIf (inR i l.length) (.eptr (T.gs (at_ T l i))) else none
    | none=>none
  | _=>none
def zlc (C:Cfg) (t:Nat) (x iv:AV):R3 :=
 match idx iv with
 | none=>none
 | some i=>match C.under t,x with
  | .str,.val .str s=>okIf (inR i s.size) (.val (.int .u8) (byteAt s i))
  | .arr n e,.val (.arr m T) l=>if n = m∧T.size = C.size e∧C.size e ≠ 0 then match loadAt C e (T.gs (at_ T l i)) with
    | some (_,v,_)=>okIf (inR i n) v
    | none=>none
   else none
  | .arr n e,.agg gs=>if C.size e ≠ 0 then match zbB gs (i.toNat * C.size e) with
    | some gs=>match loadAt C e gs with
     | some (_,v,_)=>okIf (inR i n) v
     | none=>none
    | none=>none
   else none
  | _,_=>none
def cutL {α:Type} (l:List α) (lo hi:Option Int):List α :=
 match lo,hi with
 | none,none=>l
 | some a,none=>l.drop a.toNat
 | none,some b=>l.take b.toNat
 | some a,some b=>(l.take b.toNat).drop a.toNat
def cutOk (n:Nat) (lo hi:Option Int):Bool :=
 match lo,hi with
 | none,none=>true
 | some a,none=>decide (0≤a) && decide (a≤n)
 | none,some b=>decide (0≤b) && decide (b≤n)
 | some a,some b=>decide (0≤a) && decide (a≤b) && decide (b≤n)
def cutHi (n:Nat):Option Int→Nat
 | some h=>h.toNat
 | none=>n
def cutS (s:ByteArray) (lo hi:Option Int):ByteArray:=s.extract ((lo.getD 0).toNat) (cutHi s.size hi)
def idxO (C:Cfg) (env:Env):Option Operand→Option (Option Int)
 | none=>some none
 | some x=>match ev C env x with
  | some v=>match idx v with
   | some i=>some (some i)
   | none=>none
  | none=>none
def cutFrom (lo:Option Int):Nat:=(lo.getD 0).toNat
def zah (n:Nat) (lo hi:Option Int):Nat:=cutHi n hi - cutFrom lo
def zeZ (C:Cfg) (bx:Bxs) (t:Nat) (x:AV) (lo hi mx:Option Int):R3 :=
 match C.under t with
 | .str=>match x,mx with
  | .val .str s,none=>okIf (cutOk s.size lo hi) (.val .str (cutS s lo hi))
  | _,_=>none
 | .sl e=>if C.size e = 0 then none else match x with
  | .row b w=>match find bx b with
   | some (.row T _ l)=>if T.size = C.size e then
     match mx with
     | none=>match w with
      | .whole=>okIf (cutOk l.length lo hi) (.row b (.part (cutFrom lo) (zah l.length lo hi) false))
      | .part off n _=>okIf (cutOk n lo hi) (.row b (.part (off + cutFrom lo) (zah n lo hi) false))
     | some m=>match w,hi with
      | .whole,some h=>okIf (cutOk l.length lo hi && decide (h = m)) (.row b (.part (cutFrom lo) (zah l.length lo hi) true))
      | _,_=>none
    else none
   | _=>none
  | x=>match viewT C bx e x with
   | some ⟨T,l⟩=>if T.size = C.size e then match mx with
     | none=>okIf (cutOk l.length lo hi) (.val (.sl T) (cutL l lo hi))
     | some m=>match hi with
      | some h=>match x with
       | .nils=>okIf (cutOk l.length lo (some h) && decide (h = m)) .nils
       | _=>okIf (cutOk l.length lo (some h) && decide (h = m)) (.full T (cutL l lo (some h)))
      | none=>none
    else none
   | none=>none
 | .arr n e=>match x,mx with
  | .ptr b off [],none=>if C.size e = 1 then okIf (cutOk n lo hi) (.vsl b off n (cutFrom lo) (zah n lo hi)) else none
  | .eptr [.val (.arr k T) l],none=>if k = n∧T.size = C.size e∧C.size e ≠ 0 then okIf (cutOk n lo hi) (.val (.sl T) (cutL l lo hi)) else none
  | _,_=>none
 | _=>none
def viewA (C:Cfg) (bx:Bxs) (e:Nat) (v:AV):Option ((T:Ty) × List T.den) :=
 match v with
 | .vsl b off m lo n=>match find bx b with
  | some (.var gs)=>match zbB gs off with
   | some (.val (.arr k T) l :: _)=>if k = m∧T.size = 1 then some ⟨T,(l.drop lo).take n⟩ else none
   | _=>none
  | _=>none
 | v=>viewT C bx e v
def zac:Nat:=1073741824
def moreV (C:Cfg) (bx:Bxs) (e:Nat) (y:AV):Option ((T:Ty) × List T.den) :=
 match y with
 | .val .str s=>some ⟨.int .u8,zau s⟩
 | y=>viewA C bx e y
def ziT:UT→Bool
 | .sl _ | .str=>true
 | _=>false
def zcc (C:Cfg) (bx:Bxs) (key t:Nat) (x y:AV) (yt:Nat):R3 :=
 match C.under t with
 | .sl e=>match moreV C bx e y with
  | none=>none
  | some ⟨S,m⟩=>if C.ty e = some S∧C.size e ≠ 0∧ziT (C.under yt) = true then
    match x with
    | .nils=>some (decide (m.length≤zac),.row key .whole,.add key (.row S false m))
    | .full _ []=>some (decide (m.length≤zac),.row key .whole,.add key (.row S (C.frz.any (Nat.beq t)) m))
    | .full T l=>if h:S = T then some (decide (l.length + m.length≤zac),.row key .whole,.add key (.row T true (l++(h ▸ m)))) else none
    | .row b w=>match find bx b with
     | some (.row T fz l)=>if h:S = T then
       bif (!fz || w.isWhole) then
        some (decide ((w.app l).length + m.length≤zac),.row b .whole,.app b (.row T fz (w.app l++(h ▸ m))))
       else none
      else none
     | _=>none
    | _=>none
   else none
 | _=>none
def minV:List AV→Option AV
 | [.val (.int k) a,.val (.int _) b]=>some (.val (.int k) (if (show Int from b) < (show Int from a) then b else a))
 | _=>none
def maxV:List AV→Option AV
 | [.val (.int k) a,.val (.int _) b]=>some (.val (.int k) (if (show Int from b) > (show Int from a) then b else a))
 | _=>none
def lenV (C:Cfg) (bx:Bxs) (t:Nat) (x:AV):R3 :=
 match C.under t,x with
 | .str,.val .str s=>ok (.val (.int .i64) (s.size:Int))
 | .arr n _,_=>ok (.val (.int .i64) (n:Int))
 | .ptr a,_=>match C.under a with
  | .arr n _=>ok (.val (.int .i64) (n:Int))
  | _=>none
 | .sl _,.vsl _ _ _ _ n=>ok (.val (.int .i64) (n:Int))
 | .sl e,x=>match viewT C bx e x with
  | some ⟨_,l⟩=>ok (.val (.int .i64) (l.length:Int))
  | none=>none
 | .map _ _,.mp b=>match mapAt bx b with
  | some ⟨_,_,l⟩=>ok (.val (.int .i64) (l.length:Int))
  | none=>none
 | _,_=>none
def zaB {α:Type} (l:List α) (lo:Nat) (m:List α):List α:=l.take lo++m++l.drop (lo + m.length)
def copyV (C:Cfg) (bx:Bxs) (t:Nat) (x y:AV):R3 :=
 match C.under t with
 | .sl e=>if C.size e = 1 then match moreV C bx e y with
  | none=>none
  | some ⟨S,m⟩=>match x with
   | .vsl b off q lo n=>match find bx b with
    | some (.var gs)=>match zbB gs off with
     | some (.val (.arr k T) l :: _)=>if h:S = T∧k = q∧T.size = 1 then
       match putGs gs off [.val (.arr k T) (zaB l lo ((h.1 ▸ m:List T.den).take n))] with
       | some gs=>some (true,.val (.int .i64) (((m.take n).length:Nat):Int),.upd b (.var gs))
       | none=>none
      else none
     | _=>none
    | _=>none
   | .row b w=>match find bx b with
    | some (.row T false l)=>if h:S = T∧T.size = 1 then match w with
      | .whole=>some (true,.val (.int .i64) (((m.take l.length).length:Nat):Int),.upd b (.row T false (zaB l 0 ((h.1 ▸ m:List T.den).take l.length))))
      | .part off n _=>some (true,.val (.int .i64) (((m.take n).length:Nat):Int),.upd b (.row T false (zaB l off ((h.1 ▸ m:List T.den).take n))))
     else none
    | _=>none
   | _=>none
  else none
 | _=>none
def zeA (C:Cfg) (fs:List (Nat × Nat)):List (Nat × AV)→List AV→Option (List AV)
 | [],gs=>some gs
 | (i,v) :: ps,gs=>match fs[i]? with
  | some (o,t)=>if v.okGs = true∧zd5 v.gs = C.size t∧C.size t ≠ 0 then match putGs gs o v.gs with
    | some gs=>zeA C fs ps gs
    | none=>none
   else none
  | none=>none
def zdM (bx:Bxs) (T:Ty):List (Nat × AV)→List T.den→Option (List T.den)
 | [],l=>some l
 | (i,v) :: ps,l=>if v.okGs = true∧i < l.length then match norm bx T v with
   | some x=>zdM bx T ps (l.set i x)
   | none=>none
  else none
def fsArr (n e sz:Nat):List (Nat × Nat):=(List.range n).map fun i=>(i * sz,e)
def evL (C:Cfg) (env:Env):List Operand→Option (List AV)
 | []=>some []
 | x :: l=>match ev C env x with
  | some v=>(evL C env l).map (v :: ·)
  | none=>none
def evP (C:Cfg) (env:Env):List (Nat × Operand)→Option (List (Nat × AV))
 | []=>some []
 | (i,x) :: l=>match ev C env x with
  | some v=>(evP C env l).map ((i,v) :: ·)
  | none=>none
def zhV (C:Cfg) (bx:Bxs) (t:Nat) (parts:List (Nat × AV)):R3 :=
 match C.under t with
 | .st fs=>match C.zero t with
  | some gs=>if fs.all (fun f=>!Nat.beq (C.size f.2) 0) = true then match zeA C fs parts gs with
    | some gs=>ok (.agg gs)
    | none=>none
   else none
  | none=>none
 | .arr n e=>match C.ty t with
  | some (.arr m T)=>if n = m∧T.size = C.size e∧C.size e ≠ 0 then match zdM bx T parts (List.replicate m T.dflt) with
    | some l=>ok (.val (.arr m T) l)
    | none=>none
   else none
  | _=>match C.zero t with
   | some gs=>if C.size e ≠ 0 then match zeA C (fsArr n e (C.size e)) parts gs with
     | some gs=>ok (.agg gs)
     | none=>none
    else none
   | none=>none
 | _=>none
def zbq (C:Cfg) (bx:Bxs) (t len:Nat) (parts:List (Nat × AV)):R3 :=
 match C.under t with
 | .sl e=>match C.ty e with
  | some T=>if C.size e ≠ 0∧len * C.size e≤16777216 then match zdM bx T parts (List.replicate len T.dflt) with
    | some l=>ok (.full T l)
    | none=>none
   else none
  | none=>none
 | _=>none
def zd7 (C:Cfg) (bx:Bxs) (key src dst:Nat) (x:AV):R3 :=
 match C.under src,C.under dst,x with
 | .int _,.int k,.val (.int _) n=>ok (.val (.int k) (k.wrap n))
 | .str,.str,.val .str s=>ok (.val .str s)
 | .sl e,.str,x=>match C.under e with
  | .int .u8=>match viewA C bx e x with
   | some ⟨.int .u8,l⟩=>ok (.val .str (ofBytes l))
   | _=>none
  | _=>none
 | .str,.sl e,.val .str s=>match C.under e with
  | .int .u8=>some (true,.row key .whole,.add key (.row (.int .u8) false (zau s)))
  | _=>none
 | _,_,_=>none
def zeB (C:Cfg) (key t:Nat) (n c:AV):R3 :=
 match C.under t,idx n,idx c with
 | .sl e,some n,some c=>match C.ty e with
  | some T=>if C.size e ≠ 0 then some (decide (0≤n) && decide (n≤c) && decide (c≤zac),.row key .whole,.add key (.row T false (List.replicate n.toNat T.dflt))) else none
  | none=>none
 | _,_,_=>none
def Ty.keyOk:Ty→Bool
 | .int _=>true
 | .arr _ (.int _)=>true
 | _=>false
def zd8 (C:Cfg) (kt:Nat):Ty→Bool
 | .int _=>true
 | .arr n (.int k)=>match C.under kt with
  | .arr m e=>match C.under e with
   | .int i=>decide (i = k) && (Nat.beq m n && Nat.beq (C.size e) 1)
   | _=>false
  | _=>false
 | _=>false
def keyEq:(T:Ty)→T.den→T.den→Bool
 | .int _,x,y=>decide ((show Int from x) = y)
 | .arr _ (.int _),x,y=>decide ((show List Int from x) = y)
 | _,_,_=>false
def zbr (K V:Ty):List (K.den × V.den)→K.den→V.den→List (K.den × V.den)
 | [],k,v=>[(k,v)]
 | (j,u) :: l,k,v=>bif keyEq K k j then (k,v) :: l else (j,u) :: zbr K V l k v
def zaY (K V:Ty):List (K.den × V.den)→K.den→Bool
 | [],_=>false
 | (j,_) :: l,k=>bif keyEq K k j then true else zaY K V l k
def zai (K V:Ty):List (K.den × V.den)→K.den→V.den
 | [],_=>V.dflt
 | (j,u) :: l,k=>bif keyEq K k j then u else zai K V l k
def zg2 (C:Cfg) (key t:Nat):R3 :=
 match C.under t with
 | .map k e=>match C.ty k,C.ty e with
  | some K,some V=>some (true,.mp key,.add key (.map K V []))
  | _,_=>none
 | _=>none
def zeC (C:Cfg) (bx:Bxs) (t:Nat) (m k v:AV):R3 :=
 match C.under t,m with
 | .map kt _,.mp b=>match zjL bx b with
  | some ⟨K,V,l⟩=>if K.keyOk = true∧C.ty kt = some K∧zd8 C kt K = true then
    match norm bx K k,norm bx V v with
    | some x,some y=>some (true,.tup [],.upd b (.map K V (zbr K V l x y)))
    | _,_=>none
   else none
  | _=>none
 | _,_=>none
def ziU (C:Cfg) (bx:Bxs) (t:Nat) (m k:AV) (ok:Bool):R3 :=
 match C.under t,m with
 | .map kt e,.mp b=>match mapAt bx b with
  | some ⟨K,V,l⟩=>if K.keyOk = true∧C.ty kt = some K∧C.ty e = some V∧zd8 C kt K = true then
    match norm bx K k with
    | some x=>some (true,if ok then .tup [V.av (zai K V l x),.val .bool (zaY K V l x)] else V.av (zai K V l x),.none)
    | none=>none
   else none
  | _=>none
 | _,_=>none
def UT.conc:UT→Bool
 | .int _ | .bool | .str | .ptr _ | .sl _ | .st _=>true
 | _=>false
def oneG:List AV→Option AV
 | [g]=>bif g.single then some g else none
 | _=>none
def zhW (C:Cfg) (t:Nat):Option AV :=
 match C.zero t with
 | some gs=>match C.under t with
  | .st _=>some (.agg gs)
  | .int _ | .bool | .str | .ptr _ | .sl _=>oneG gs
  | _=>none
 | none=>none
def zdU (C:Cfg) (t:Nat) (x:AV):R3 :=
 if (C.under t).conc = true then match x with
  | .iface u v=>if u = t then some (true,.tup [v,.val .bool true],.none) else match zhW C t with
   | some z=>some (true,.tup [z,.val .bool false],.none)
   | none=>none
  | .nili=>match zhW C t with
   | some z=>some (true,.tup [z,.val .bool false],.none)
   | none=>none
  | _=>none
 else none
def zeD (C:Cfg) (t:Nat) (x:AV):R3 :=
 if (C.under t).conc = true then match x with
  | .val (.int k) n=>ok (.iface t (.val (.int k) n))
  | .val .str s=>ok (.iface t (.val .str s))
  | .agg []=>ok (.iface t (.agg []))
  | _=>none
 else none
def zld (C:Cfg) (op:BinOp) (t:Nat) (x:AV):R3 :=
 match C.under t,x with
 | .iface,.iface _ _=>eqV op false
 | .iface,.nili=>eqV op true
 | _,_=>none
def zle (C:Cfg) (bx:Bxs) (t:Nat) (x:AV):R3 :=
 match C.under t with
 | .sl e=>match C.ty e,x with
  | some _,.nils=>some (true,.tup [],.none)
  | some S,.row b w=>match find bx b with
   | some (.row T false l)=>if S = T∧T.size ≠ 0 then match w with
     | .whole=>some (true,.tup [],.upd b (.row T false (List.replicate l.length T.dflt)))
     | .part off n _=>some (true,.tup [],.upd b (.row T false (zaB l off (List.replicate n T.dflt))))
    else none
   | _=>none
  | _,_=>none
 | _=>none
def zjN:List AV→Bool
 | []=>true
 | .ptr _ 0 [] :: l=>zjN l
 | _=>false
def zeE:List AV→Bool
 | []=>true
 | .ptr _ 0 [] :: l=>zeE l
 | .mp _ :: l=>zeE l
 | .agg [] :: l=>zeE l
 | _=>false
def zcn (bx:Bxs) (k:Nat) (r:R3):R3 :=
 match find bx k with
 | some _=>none
 | none=>r
def AV.toFull:AV→Option ((T:Ty) × List T.den)
 | .full T l=>some ⟨T,l⟩
 | _=>none
def ownRow (bx:Bxs) (key:Nat) (r:R3):R3 :=
 match r with
 | some (true,v,.none)=>match v.toFull with
  | some x=>zcn bx key (some (true,.row key .whole,.add key (.row x.1 false x.2)))
  | none=>none
 | _=>none
def capV (C:Cfg) (t:Nat) (x:AV):R3 :=
 match C.under t,x with
 | .sl _,.nils=>ok (.val (.int .i64) 0)
 | _,_=>none
def execA (C:Cfg) (base:Nat) (o:Oper) (s:St):R3 :=
 let key:=base + (o.dst.getD 0)
 match o.op with
 | .move x | .assign x=>match ev C s.env x with
  | some v=>ok v
  | none=>none
 | .alloc t=>match C.zero t with
  | some gs=>zcn s.bxs key (some (true,.ptr key 0 [],.add key (.var gs)))
  | none=>none
 | .box _ x=>match ev C s.env x with
  | some v=>if v.okGs = true then zcn s.bxs key (some (true,.ptr key 0 [],.add key (.var v.gs))) else none
  | none=>none
 | .build t parts=>match evP C s.env parts.toList with
  | some ps=>zhV C s.bxs t ps
  | none=>none
 | .buildSlice t n parts=>match evP C s.env parts.toList with
  | some ps=>bif C.own.any (Nat.beq t) && !ps.isEmpty then ownRow s.bxs key (zbq C s.bxs t n ps) else zbq C s.bxs t n ps
  | none=>none
 | .load t a=>match ev C s.env a with
  | some a=>loadV C s.bxs t a
  | none=>none
 | .store t a x=>match ev C s.env a,ev C s.env x with
  | some a,some v=>zla C s.bxs t a v
  | _,_=>none
 | .nilCheck x=>match ev C s.env x with
  | some (.ptr b off p)=>ok (.ptr b off p)
  | some (.rptr b i j)=>ok (.rptr b i j)
  | some (.eptr gs)=>ok (.eptr gs)
  | _=>none
 | .binOp op t x (.const .nilIface) _=>match ev C s.env x with
  | some a=>zld C op t a
  | none=>none
 | .typeAssert x _ t true=>match ev C s.env x with
  | some a=>zdU C t a
  | none=>none
 | .makeInterface t x=>match ev C s.env x with
  | some a=>zeD C t a
  | none=>none
 | .makeMap t none=>zcn s.bxs key (zg2 C key t)
 | .mapUpdate t m k x=>match ev C s.env m,ev C s.env k,ev C s.env x with
  | some m,some k,some v=>zeC C s.bxs t m k v
  | _,_,_=>none
 | .entry x=>match ev C s.env x with
  | some (.ptr b 0 [])=>match curAt s.bxs b with
   | some ⟨K,V,c⟩=>ok (.tup [K.av c.1,V.av c.2])
   | none=>none
  | _=>none
 | .lookup t m k ok=>match ev C s.env m,ev C s.env k with
  | some m,some k=>ziU C s.bxs t m k ok
  | _,_=>none
 | .binOp op t x y _=>match ev C s.env x,ev C s.env y with
  | some a,some b=>binV C op t a b
  | _,_=>none
 | .unOp op _ x=>match ev C s.env x with
  | some a=>unV op a
  | none=>none
 | .convert src dst x=>match ev C s.env x with
  | some a=>match zd7 C s.bxs key src dst a with
   | some (c,v,.add k b)=>zcn s.bxs key (some (c,v,.add k b))
   | r=>r
  | none=>none
 | .makeFunc (.func f) first captured=>match first.toList,evL C s.env captured.toList with
  | [],some l=>if zjN l = true then ok (.fn f l) else none
  | _ :: _,some []=>match evL C s.env first.toList with
   | some l=>if zeE l = true then ok (.mfn f l) else none
   | none=>none
  | _,_=>none
 | .makeSlice t n c=>match ev C s.env n,ev C s.env c with
  | some n,some c=>zcn s.bxs key (zeB C key t n c)
  | _,_=>none
 | .slice t x lo hi mx=>match ev C s.env x,idxO C s.env lo,idxO C s.env hi,idxO C s.env mx with
  | some v,some lo,some hi,some mx=>zeZ C s.bxs t v lo hi mx
  | _,_,_,_=>none
 | .fieldAddr t x f=>match ev C s.env x with
  | some a=>zdv C t a f
  | none=>none
 | .field t x f=>match ev C s.env x with
  | some a=>zlb C t a f
  | none=>none
 | .indexAddr t x i=>match ev C s.env x,ev C s.env i with
  | some a,some i=>zbE C s.bxs t a i
  | _,_=>none
 | .index t x i=>match ev C s.env x,ev C s.env i with
  | some a,some i=>zlc C t a i
  | _,_=>none
 | .extract x i=>match ev C s.env x with
  | some (.tup vs)=>match vs[i]? with
   | some v=>ok v
   | none=>none
  | _=>none
 | .call { callee:=.builtin b,args,argTypes }=>match evL C s.env args.toList with
  | some vs=>match b,argTypes.toList,vs with
   | .len,[t],[x]=>lenV C s.bxs t x
   | .append,[t,yt],[x,y]=>match zcc C s.bxs key t x y yt with
    | some (c,v,.add k b)=>zcn s.bxs key (some (c,v,.add k b))
    | r=>r
   | .copy,[t,_],[x,y]=>copyV C s.bxs t x y
   | .clear,[t],[x]=>zle C s.bxs t x
   | .cap,[t],[x]=>capV C t x
   | .min,_,vs=>match minV vs with
    | some v=>ok v
    | none=>none
   | .max,_,vs=>match maxV vs with
    | some v=>ok v
    | none=>none
   | _,_,_=>none
  | none=>none
 | _=>none
end Go.V
namespace Go.V
inductive Dyn where
 | win (b:Nat)
 | wino (b:Nat)
@[reducible] def Dyn.den:Dyn→Type
 | .win _=>Nat
 | .wino _=>Nat × Nat
def Dyn.av:(k:Dyn)→k.den→AV
 | .win b,n=>.row b (.part 0 n false)
 | .wino b,x=>.row b (.part x.1 x.2 false)
def Dyn.of (bx:Bxs):(k:Dyn)→AV→Option k.den
 | .win b,.row c .whole=>bif Nat.beq c b then (match find bx b with | some (.row _ _ l)=>some l.length | _=>none) else none
 | .win b,.row c (.part 0 n _)=>bif Nat.beq c b then some n else none
 | .wino b,.row c (.part o n _)=>bif Nat.beq c b then some (o,n) else none
 | _,_=>none
inductive Sh where
 | ty (T:Ty)
 | cst (v:AV)
 | dyn (k:Dyn)
inductive BSh where
 | var (gs:List Sh)
 | row (T:Ty) (fz:Bool)
 | map (K V:Ty)
 | fmap (K V:Ty)
 | iter (K V:Ty)
 | loop (busy:Bool) (f id:Nat) (env:List (Nat × Sh))
structure Ann where
 env:List (Nat × Sh)
 stk:List (List (Nat × Sh)):=[]
 bxs:List (Nat × BSh):=[]
@[reducible] def shDen:List Sh→Type
 | []=>Unit
 | .ty T :: l=>T.den × shDen l
 | .cst _ :: l=>shDen l
 | .dyn k :: l=>k.den × shDen l
@[reducible] def envDen:List (Nat × Sh)→Type
 | []=>Unit
 | (_,.ty T) :: l=>T.den × envDen l
 | (_,.cst _) :: l=>envDen l
 | (_,.dyn k) :: l=>k.den × envDen l
@[reducible] def stkDen:List (List (Nat × Sh))→Type
 | []=>Unit
 | e :: l=>envDen e × stkDen l
@[reducible] def bxsDen:List (Nat × BSh)→Type
 | []=>Unit
 | (_,.var gs) :: l=>shDen gs × bxsDen l
 | (_,.row T _) :: l=>List T.den × bxsDen l
 | (_,.map K V) :: l=>List (K.den × V.den) × bxsDen l
 | (_,.fmap K V) :: l=>List (K.den × V.den) × bxsDen l
 | (_,.iter K V) :: l=>List (K.den × V.den) × bxsDen l
 | (_,.loop _ _ _ e) :: l=>envDen e × bxsDen l
@[reducible] def Ann.den (A:Ann):Type:=envDen A.env × stkDen A.stk × bxsDen A.bxs
def encSh:(l:List Sh)→shDen l→List AV
 | [],_=>[]
 | .ty T :: l,x=>.val T x.1 :: encSh l x.2
 | .cst v :: l,x=>v :: encSh l x
 | .dyn k :: l,x=>k.av x.1 :: encSh l x.2
def zdd:(l:List (Nat × Sh))→envDen l→Env
 | [],_=>[]
 | (n,.ty T) :: l,x=>(n,T.av x.1) :: zdd l x.2
 | (n,.cst v) :: l,x=>(n,v) :: zdd l x
 | (n,.dyn k) :: l,x=>(n,k.av x.1) :: zdd l x.2
def zlf:(l:List (List (Nat × Sh)))→stkDen l→List Env
 | [],_=>[]
 | e :: l,x=>zdd e x.1 :: zlf l x.2
def zar:(l:List (Nat × BSh))→bxsDen l→Bxs
 | [],_=>[]
 | (n,.var gs) :: l,x=>(n,.var (encSh gs x.1)) :: zar l x.2
 | (n,.row T fz) :: l,x=>(n,.row T fz x.1) :: zar l x.2
 | (n,.map K V) :: l,x=>(n,.map K V x.1) :: zar l x.2
 | (n,.fmap K V) :: l,x=>(n,.fmap K V x.1) :: zar l x.2
 | (n,.iter K V) :: l,x=>(n,.iter K V x.1 none) :: zar l x.2
 | (n,.loop u f i e) :: l,x=>(n,.loop u f i (zdd e x.1)) :: zar l x.2
def Ann.enc (A:Ann) (x:A.den):St:={ env:=zdd A.env x.1,stk:=zlf A.stk x.2.1,bxs:=zar A.bxs x.2.2 }
def Win.same:Win→Win→Bool
 | .whole,.whole=>true
 | _,_=>false
def ziV:AV→AV→Bool
 | .ptr b o [],.ptr c p []=>Nat.beq b c && Nat.beq o p
 | .mp b,.mp c=>Nat.beq b c
 | .agg [],.agg []=>true
 | _,_=>false
def zcf:List AV→List AV→Bool
 | [],[]=>true
 | a :: l,b :: m=>ziV a b && zcf l m
 | _,_=>false
def AV.same (a b:AV):Bool :=
 match a,b with
 | .nils,.nils=>true
 | .nilp,.nilp=>true
 | .nilf,.nilf=>true
 | .nili,.nili=>true
 | .nilm,.nilm=>true
 | .junk,.junk=>true
 | .ptr b o [],.ptr c p []=>Nat.beq b c && Nat.beq o p
 | .row b .whole,.row c .whole=>Nat.beq b c
 | .fn f l,.fn g m=>Nat.beq f g && zcf l m
 | .mfn f l,.mfn g m=>Nat.beq f g && zcf l m
 | .tup [],.tup []=>true
 | .tup (.fn f l :: us),.tup (.fn g m :: vs)=>Nat.beq f g && (zcf l m && zcf us vs)
 | .yld b,.yld c=>Nat.beq b c
 | .mp b,.mp c=>Nat.beq b c
 | .vsl b o n p l,.vsl c q m r k=>Nat.beq b c && (Nat.beq o q && (Nat.beq n m && (Nat.beq p r && Nat.beq l k)))
 | .val (.int k) x,.val (.int j) y=>decide (k = j) && decide ((show Int from x) = (show Int from y))
 | _,_=>false
section
variable {R:Type}
def frzB (bx:Bxs) (b:Nat):Bxs :=
 match find bx b with
 | some (.row T false l)=>setB bx b (.row T true l)
 | _=>bx
mutual
def frz (bx:Bxs):AV→Bxs
 | .row b _=>frzB bx b
 | .agg gs=>frzL bx gs
 | _=>bx
def frzL (bx:Bxs):List AV→Bxs
 | []=>bx
 | g :: gs=>frzL (frz bx g) gs
end
def zde (env:Env):List (Nat × Sh)→List AV
 | []=>[]
 | (n,.ty _) :: l=>match find env n with
  | some v=>v :: zde env l
  | none=>zde env l
 | (_,.cst _) :: l=>zde env l
 | (_,.dyn _) :: l=>zde env l
def ziW:List Env→List (List (Nat × Sh))→List AV
 | e :: s,l :: r=>zde e l++ziW s r
 | _,_=>[]
def tyGs:List Sh→List AV→List AV
 | .ty _ :: l,v :: vs=>v :: tyGs l vs
 | .cst _ :: l,_ :: vs=>tyGs l vs
 | .dyn _ :: l,_ :: vs=>tyGs l vs
 | _,_=>[]
def zbs (bx:Bxs):List (Nat × BSh)→List AV
 | []=>[]
 | (n,.var gs) :: l=>match find bx n with
  | some (.var vs)=>tyGs gs vs++zbs bx l
  | _=>zbs bx l
 | (_,.row _ _) :: l=>zbs bx l
 | (_,.map _ _) :: l=>zbs bx l
 | (_,.fmap _ _) :: l=>zbs bx l
 | (_,.iter _ _) :: l=>zbs bx l
 | (n,.loop _ _ _ e) :: l=>match find bx n with
  | some (.loop _ _ _ env)=>zde env e++zbs bx l
  | _=>zbs bx l
def dec1 (bx:Bxs) (T:Ty) (v:AV) (K:T.den→Option R):Option R :=
 match conv bx T v with
 | some x=>K x
 | none=>none
def decSh (bx:Bxs):(l:List Sh)→List AV→(shDen l→Option R)→Option R
 | [],[],K=>K ()
 | .ty T :: l,v :: vs,K=>dec1 bx T v fun x=>decSh bx l vs fun y=>K (x,y)
 | .cst c :: l,v :: vs,K=>bif v.same c then decSh bx l vs K else none
 | .dyn k :: l,v :: vs,K=>match k.of bx v with
  | some x=>decSh bx l vs fun y=>K (x,y)
  | none=>none
 | _,_,_=>none
def zdf (bx:Bxs) (env:Env):(l:List (Nat × Sh))→(envDen l→Option R)→Option R
 | [],K=>K ()
 | (n,.ty T) :: l,K=>match find env n with
  | some v=>match norm bx T v with
   | some x=>zdf bx env l fun y=>K (x,y)
   | none=>none
  | none=>none
 | (n,.cst c) :: l,K=>match find env n with
  | some v=>bif v.same c then zdf bx env l K else none
  | none=>none
 | (n,.dyn k) :: l,K=>match find env n with
  | some v=>match k.of bx v with
   | some x=>zdf bx env l fun y=>K (x,y)
   | none=>none
  | none=>none
def zgp (bx:Bxs):List Env→(l:List (List (Nat × Sh)))→(stkDen l→Option R)→Option R
 | [],[],K=>K ()
 | env :: stk,e :: l,K=>zdf bx env e fun x=>zgp bx stk l fun y=>K (x,y)
 | _,_,_=>none
def zlg (T:Ty) (fz:Bool) (b:Box) (K:List T.den→Option R):Option R :=
 match b with
 | .row S f l=>if h:S = T then (bif (f == fz) then K (h ▸ l) else none) else none
 | _=>none
def zg3 (K V:Ty) (o:Option ((K:Ty) × (V:Ty) × List (K.den × V.den))) (k:List (K.den × V.den)→Option R):Option R :=
 match o with
 | some ⟨K',V',l⟩=>if h:K' = K∧V' = V then k (h.1 ▸ h.2 ▸ l) else none
 | none=>none
def zlh (K V:Ty) (b:Box) (k:List (K.den × V.den)→Option R):Option R :=
 match b.toMapW with
 | some ⟨K',V',l⟩=>if h:K' = K∧V' = V then k (h.1 ▸ h.2 ▸ l) else none
 | none=>none
def zb3 (bx:Bxs):(l:List (Nat × BSh))→(bxsDen l→Option R)→Option R
 | [],K=>K ()
 | (n,.var gs) :: l,K=>match find bx n with
  | some (.var vs)=>decSh bx gs vs fun x=>zb3 bx l fun y=>K (x,y)
  | _=>none
 | (n,.row T fz) :: l,K=>match find bx n with
  | some b=>zlg T fz b fun x=>zb3 bx l fun y=>K (x,y)
  | none=>none
 | (n,.map S V) :: l,K=>match find bx n with
  | some b=>zlh S V b fun x=>zb3 bx l fun y=>K (x,y)
  | none=>none
 | (n,.fmap S V) :: l,K=>match find bx n with
  | some b=>zg3 S V b.toMapF fun x=>zb3 bx l fun y=>K (x,y)
  | none=>none
 | (n,.iter S V) :: l,K=>match find bx n with
  | some b=>zg3 S V b.toIter fun x=>zb3 bx l fun y=>K (x,y)
  | none=>none
 | (n,.loop u f i e) :: l,K=>match find bx n with
  | some (.loop u' f' i' env)=>bif (u' == u) && (Nat.beq f' f && Nat.beq i' i) then zdf bx env e fun x=>zb3 bx l fun y=>K (x,y) else none
  | _=>none
def Ann.dec (A:Ann) (s:St) (K:A.den→Option R):Option R :=
 let bx:=frzL s.bxs (zde s.env A.env++ziW s.stk A.stk++zbs s.bxs A.bxs)
 zdf bx s.env A.env fun x=>zgp bx s.stk A.stk fun y=>zb3 bx A.bxs fun z=>K (x,y,z)
end
inductive Thaw where
 | slot (n b:Nat) (T:Ty)
 | cell (k i b:Nat) (T:Ty)
def thawV (b:Nat) (T:Ty):AV→Option Box
 | .nils=>some (.row T false [])
 | .full S l=>if h:S = T then some (.row T true (h ▸ l)) else none
 | _=>none
def thaw1 (s:St):Thaw→Option St
 | .slot n b T=>match find s.env n with
  | some (.row c w)=>bif Nat.beq c b then (match w with | .whole=>some s | _=>none) else none
  | some v=>match thawV b T v,find s.bxs b with
   | some bx,none=>some { s with env:=(n,.row b .whole) :: s.env,bxs:=(b,bx) :: s.bxs }
   | _,_=>none
  | none=>none
 | .cell k i b T=>match find s.bxs k with
  | some (.var gs)=>match gs[i]? with
   | some (.row c w)=>bif Nat.beq c b then (match w with | .whole=>some s | _=>none) else none
   | some v=>match thawV b T v,find s.bxs b with
    | some bx,none=>some { s with bxs:=(b,bx) :: setB s.bxs k (.var (gs.set i (.row b .whole))) }
    | _,_=>none
   | none=>none
  | _=>none
def zeF:List Thaw→St→Option St
 | [],s=>some s
 | t :: l,s=>match thaw1 s t with
  | some s=>zeF l s
  | none=>none
inductive PV where
 | int (k:IntKind) (n:Int)
 | emp
 deriving DecidableEq
structure Pan where
 t:Nat
 v:PV
 deriving DecidableEq
def PV.av:PV→AV
 | .int k n=>.val (.int k) n
 | .emp=>.agg []
def Pan.av (p:Pan):AV:=.iface p.t p.v.av
def panOf:AV→Option Pan
 | .iface t (.val (.int k) n)=>some ⟨t,.int k n⟩
 | .iface t (.agg [])=>some ⟨t,.emp⟩
 | _=>none
inductive Ex where
 | normal | exit (id:Nat) | ret | pan (p:Pan)
 deriving DecidableEq
@[reducible] def outDen:List (Ex × Ann)→Type
 | []=>Empty
 | [(_,A)]=>A.den
 | (_,A) :: l=>A.den ⊕ outDen l
section
variable {R:Type}
def outK (K:Ex→St→Option R):(l:List (Ex × Ann))→outDen l→Option R
 | [],o=>nomatch o
 | [(e,A)],o=>K e (A.enc o)
 | (e,A) :: b :: l,o=>Sum.elim (fun x=>K e (A.enc x)) (fun y=>outK K (b :: l) y) o
end
def zgq (e:Ex) (s:St):(l:List (Ex × Ann))→Option (outDen l)
 | []=>none
 | [(f,A)]=>if e = f then A.dec s some else none
 | (f,A) :: b :: l=>if e = f then A.dec s (fun x=>some (.inl x)) else (zgq e s (b :: l)).map .inr
structure LSpec where
 thaws:List Thaw:=[]
 head:Ann
 outs:List (Ex × Ann)
 fn:head.den→Option (outDen outs)
@[reducible] def tysDen:List Ty→Type
 | []=>Unit
 | T :: l=>T.den × tysDen l
def tysAV:(l:List Ty)→tysDen l→List AV
 | [],_=>[]
 | T :: l,x=>T.av x.1 :: tysAV l x.2
def resAV:(l:List Ty)→tysDen l→AV
 | [T],x=>T.av x.1
 | l,x=>.tup (tysAV l x)
structure PSpec where
 args:List Ty
 res:List Ty
 fn:tysDen args→Option (tysDen res)
def scalar:Ty→Bool
 | .int _ | .bool | .str | .unit=>true
 | .sl _=>false
 | .pair a b=>scalar a && scalar b
 | .arr _ e=>scalar e
def frzKeys:Bxs→Bxs→Bxs
 | [],bx=>bx
 | (k,_) :: l,bx=>frzKeys l (frzB bx k)
def zhX (bx:Bxs):Bxs:=frzKeys bx bx
section
variable {R:Type}
def argsK (bx:Bxs):(l:List Ty)→List AV→(tysDen l→Option R)→Option R
 | [],[],K=>K ()
 | T :: l,v :: vs,K=>match norm bx T v with
  | some x=>argsK bx l vs fun y=>K (x,y)
  | none=>none
 | _,_,_=>none
end
structure Key where
 d:Nat
 base:Nat
 f:Nat
 id:Nat
def Key.beq (a b:Key):Bool:=Nat.beq a.d b.d && Nat.beq a.base b.base && Nat.beq a.f b.f && Nat.beq a.id b.id
structure CSpec where
 thaws:List Thaw:=[]
 args:List (Nat × Sh)
 ins:List (Nat × BSh)
 res:List Sh
 outs:List (Nat × BSh)
 fn:envDen args × bxsDen ins→Option (shDen res × bxsDen outs)
structure RSpec where
 args:List Ty
 T:Ty
 fz:Bool
 fn:tysDen args→Option (List T.den)
structure MSpec where
 args:List Ty
 arg:Nat
 K:Ty
 V:Ty
 fn:tysDen args→Option (List (K.den × V.den))
structure ISpec where
 T:Ty
 rest:List AV
 fn:List T.den→Option (List T.den)
structure Env0 where
 C:Cfg
 P:List (Nat × PSpec)
 L:List (Key × LSpec)
 F:List (Nat × Func)
 S:List (Nat × CSpec):=[]
 R:List (Nat × RSpec):=[]
 I:List (Nat × ISpec):=[]
 M:List (Nat × MSpec):=[]
 fuel:Nat:=0
 vary:Bool:=false
 sym:Bool:=false
 ord:Bool:=false
 tot:List (Nat × List Nat):=[]
def Env0.totOf (E:Env0) (f:Nat):List Nat:=(find E.tot f).getD []
def findL {α:Type}:List (Key × α)→Key→Option α
 | [],_=>none
 | (k,v) :: l,n=>bif k.beq n then some v else findL l n
def zas:Code→Nat
 | .region id _ _=>id
 | .seq a _=>zas a
 | .block _ c=>zas c
 | .loop c=>zas c
 | .scope c=>zas c
 | _=>0
def rid (a b:Code):Nat :=
 match zas a with
 | 0=>zas b
 | n=>n
def zcS (base:Nat) (a b:Code):Nat:=base + 900 + rid a b % 100
structure LCode where
 ps:List Nat
 assign:Code
 body:Code
 n:Nat
def zal (n:Nat):Code→List (Nat × LCode)
 | .seq a b=>zal n a++zal n b
 | .cond _ a b=>zal n a++zal n b
 | .block _ c=>zal n c
 | .scope c=>zal n c
 | .loop c=>zal n c
 | .rangeFunc _ ps a b=>[(rid a b,⟨ps.toList,a,b,n⟩)]
 | _=>[]
def zbO (o:Oper):Bool :=
 match o.op with
 | .defer _=>false
 | _=>true
def zaO (tot:List Nat):Code→Bool
 | .region id ops draw=>ops.toList.all zbO && (!draw || !tot.contains id)
 | .seq a b=>zaO tot a && zaO tot b
 | .cond _ a b=>zaO tot a && zaO tot b
 | .block _ c=>zaO tot c
 | .scope c=>zaO tot c
 | .loop c=>zaO tot c
 | .rangeFunc ..=>false
 | _=>true
inductive Callee where
 | fn (f:Nat)
 | yld (b:Nat)
def putE (d:Option Tmp) (v:AV) (env:Env):Env :=
 match d with
 | some d=>(d,v) :: env
 | none=>env
def resOf (C:Cfg) (s:St):List ResultVar→Option (List AV)
 | []=>some []
 | .tmp t :: l=>match find s.env t with
  | some v=>bif v.okGs then (resOf C s l).map (v :: ·) else none
  | none=>none
 | .cell a t :: l=>match find s.env a with
  | some p=>match loadV C s.bxs t p with
   | some (_,v,_)=>bif v.okGs then (resOf C s l).map (v :: ·) else none
   | none=>none
  | none=>none
def tup1:List AV→AV
 | [v]=>v
 | l=>.tup l
def params:Nat→List AV→Env
 | _,[]=>[]
 | n,v :: l=>(n,v) :: params (n + 1) l
def encV:(l:List Sh)→shDen l→List AV
 | [],_=>[]
 | .ty T :: l,x=>T.av x.1 :: encV l x.2
 | .cst v :: l,x=>v :: encV l x
 | .dyn k :: l,x=>k.av x.1 :: encV l x.2
def zaq:List (Nat × BSh)→List Nat
 | []=>[]
 | (k,.row _ _) :: l=>k :: zaq l
 | (_,.var _) :: l=>zaq l
 | (_,.map _ _) :: l=>zaq l
 | (_,.fmap _ _) :: l=>zaq l
 | (_,.iter _ _) :: l=>zaq l
 | (_,.loop _ _ _ _) :: l=>zaq l
def zaS:Nat→List (Nat × BSh)→Env
 | _,[]=>[]
 | n,(k,.var _) :: l=>(n,.ptr k 0 []) :: zaS (n + 1) l
 | n,(_,.row _ _) :: l=>zaS n l
 | n,(_,.map _ _) :: l=>zaS n l
 | n,(_,.fmap _ _) :: l=>zaS n l
 | n,(_,.iter _ _) :: l=>zaS n l
 | n,(_,.loop _ _ _ _) :: l=>zaS n l
def zcT:List Nat→St→St
 | [],s=>s
 | k :: l,s=>zcT l { env:=zdc k s.env,stk:=zgo k s.stk,bxs:=zcm k s.bxs }
def zjO:Bxs→Bxs→Bxs
 | [],b=>b
 | (k,x) :: l,b=>setB (zjO l b) k x
noncomputable def same {R:Type} (a b:Option R):Option R:=open Classical in if a = b then a else none
theorem zaI {R:Type} (a:Option R):same a a = a:=if_pos rfl
noncomputable def zbF {R:Type} (a b:AV) (r:Option R):Option R:=open Classical in if a = b then r else none
theorem zat {R:Type} (a:AV) (r:Option R):zbF a a r = r:=if_pos rfl
theorem ziX {R:Type} {a b:AV} {r:Option R} {x:R} (h:zbF a b r = some x):a = b∧r = some x:=by
 unfold zbF at h
 split at h
 ·rename_i e
  exact ⟨e,h⟩
 ·cases h
theorem zfs {R:Type} {a b:Option R} {r:R} (h:same a b = some r):a = some r∧b = some r:=by
 unfold same at h
 split at h
 ·rename_i e
  exact ⟨h,e ▸ h⟩
 ·cases h
def zft {R:Type} (sm:Option R→Option R→Option R) (f:Nat→Option R) (x:Option R):List Nat→Option R
 | []=>x
 | i :: l=>sm x (zft sm f (f i) l)
def zbP {α:Type} (f:α→α→Bool):List α→List α→Bool
 | [],[]=>true
 | a :: l,b :: m=>f a b && zbP f l m
 | _,_=>false
theorem zbd {α:Type} {f:α→α→Bool} (hf:∀ a b,f a b = true→a = b):∀ {l m:List α},zbP f l m = true→l = m
 | [],[],_=>rfl
 | [],_ :: _,h=>nomatch h
 | _ :: _,[],h=>nomatch h
 | a :: l,b :: m,h=>by
  simp only [zbP,sA] at h
  rw [hf a b h.1,zbd hf h.2]
def Ty.deq:(T:Ty)→T.den→T.den→Bool
 | .int _,x,y=>decide ((show Int from x) = y)
 | .bool,x,y=>decide ((show Bool from x) = y)
 | .str,x,y=>decide ((show ByteArray from x) = y)
 | .sl e,x,y=>zbP e.deq x y
 | .unit,_,_=>true
 | .pair a b,x,y=>a.deq x.1 y.1 && b.deq x.2 y.2
 | .arr _ e,x,y=>zbP e.deq x y
theorem Ty.deq_eq:∀ (T:Ty) (x y:T.den),T.deq x y = true→x = y
 | .int _,_,_,h=>of_decide_eq_true h
 | .bool,_,_,h=>of_decide_eq_true h
 | .str,_,_,h=>of_decide_eq_true h
 | .sl e,_,_,h=>zbd (fun a b=>Ty.deq_eq e a b) h
 | .unit,_,_,_=>rfl
 | .pair a b,x,y,h=>by
  simp only [Ty.deq,sA] at h
  exact Prod.ext (Ty.deq_eq a _ _ h.1) (Ty.deq_eq b _ _ h.2)
 | .arr _ e,_,_,h=>zbd (fun a b=>Ty.deq_eq e a b) h
def tvDeq (T:Ty) (x:T.den) (S:Ty) (y:S.den):Bool:=if h:S = T then T.deq x (h ▸ y) else false
def tlDeq (T:Ty) (x:List T.den) (S:Ty) (y:List S.den):Bool:=if h:S = T then zbP T.deq x (h ▸ y) else false
theorem zmO {T:Ty} {x:T.den} {S:Ty} {y:S.den} (h:tvDeq T x S y = true):T = S∧HEq x y:=by
 unfold tvDeq at h
 split at h
 ·rename_i e; subst e; exact ⟨rfl,heq_of_eq (Ty.deq_eq _ _ _ h)⟩
 ·cases h
theorem zg4 {T:Ty} {x:List T.den} {S:Ty} {y:List S.den} (h:tlDeq T x S y = true):T = S∧HEq x y:=by
 unfold tlDeq at h
 split at h
 ·rename_i e; subst e; exact ⟨rfl,heq_of_eq (zbd (Ty.deq_eq S) h)⟩
 ·cases h
def Win.deq:Win→Win→Bool
 | .whole,.whole=>true
 | .part a b c,.part x y z=>Nat.beq a x && (Nat.beq b y && decide (c = z))
 | _,_=>false
theorem Win.deq_eq {a b:Win} (h:a.deq b = true):a = b:=by
 cases a <;> cases b <;> simp only [Win.deq,sA,decide_eq_true_eq,sF] at h
 ·rfl
 ·rw [sB h.1,sB h.2.1,h.2.2]
def Stp.deq (a b:Stp):Bool:=Nat.beq a.n b.n && (Nat.beq a.sz b.sz && (decide (a.i = b.i) && Nat.beq a.o b.o))
theorem Stp.deq_eq (a b:Stp) (h:a.deq b = true):a = b:=by
 simp only [Stp.deq,sA,decide_eq_true_eq] at h
 cases a; cases b
 simp only at h
 rw [sB h.1,sB h.2.1,h.2.2.1,sB h.2.2.2]
mutual
def AV.deq (a b:AV):Bool :=
 match a with
 | .val T x=>(match b with | .val S y=>tvDeq T x S y | _=>false)
 | .full T x=>(match b with | .full S y=>tlDeq T x S y | _=>false)
 | .nn T x=>(match b with | .nn S y=>tlDeq T x S y | _=>false)
 | .nils=>(match b with | .nils=>true | _=>false)
 | .agg l=>(match b with | .agg m=>deqL l m | _=>false)
 | .tup l=>(match b with | .tup m=>deqL l m | _=>false)
 | .nilp=>(match b with | .nilp=>true | _=>false)
 | .ptr k o p=>(match b with | .ptr k' o' p'=>Nat.beq k k' && (Nat.beq o o' && zbP Stp.deq p p') | _=>false)
 | .rptr k i o=>(match b with | .rptr k' i' o'=>Nat.beq k k' && (decide (i = i') && Nat.beq o o') | _=>false)
 | .eptr l=>(match b with | .eptr m=>deqL l m | _=>false)
 | .row k w=>(match b with | .row k' w'=>Nat.beq k k' && w.deq w' | _=>false)
 | .vsl a b' c d e=>(match b with | .vsl a2 b2 c2 d2 e2=>Nat.beq a a2 && (Nat.beq b' b2 && (Nat.beq c c2 && (Nat.beq d d2 && Nat.beq e e2))) | _=>false)
 | .fn f l=>(match b with | .fn g m=>Nat.beq f g && deqL l m | _=>false)
 | .mfn f l=>(match b with | .mfn g m=>Nat.beq f g && deqL l m | _=>false)
 | .nilf=>(match b with | .nilf=>true | _=>false)
 | .yld k=>(match b with | .yld k'=>Nat.beq k k' | _=>false)
 | .iface t v=>(match b with | .iface u w=>Nat.beq t u && v.deq w | _=>false)
 | .nili=>(match b with | .nili=>true | _=>false)
 | .nilm=>(match b with | .nilm=>true | _=>false)
 | .mp k=>(match b with | .mp k'=>Nat.beq k k' | _=>false)
 | .junk=>(match b with | .junk=>true | _=>false)
def deqL (l m:List AV):Bool :=
 match l with
 | []=>(match m with | []=>true | _=>false)
 | a :: l=>(match m with | b :: m=>a.deq b && deqL l m | []=>false)
end
mutual
theorem AV.deq_eq:∀ (a:AV) {b:AV},a.deq b = true→a = b
 | .val T x,b,h=>by
  cases b <;> simp only [AV.deq,sF] at h
  obtain ⟨rfl,e⟩:=zmO h
  rw [eq_of_heq e]
 | .full T x,b,h=>by
  cases b <;> simp only [AV.deq,sF] at h
  obtain ⟨rfl,e⟩:=zg4 h
  rw [eq_of_heq e]
 | .nn T x,b,h=>by
  cases b <;> simp only [AV.deq,sF] at h
  obtain ⟨rfl,e⟩:=zg4 h
  rw [eq_of_heq e]
 | .nils,b,h=>by cases b <;> simp only [AV.deq,sF] at h; rfl
 | .agg l,b,h=>by
  cases b <;> simp only [AV.deq,sF] at h
  rw [zdg l h]
 | .tup l,b,h=>by
  cases b <;> simp only [AV.deq,sF] at h
  rw [zdg l h]
 | .nilp,b,h=>by cases b <;> simp only [AV.deq,sF] at h; rfl
 | .ptr k o p,b,h=>by
  cases b <;> simp only [AV.deq,sF,sA] at h
  rw [sB h.1,sB h.2.1,zbd Stp.deq_eq h.2.2]
 | .rptr k i o,b,h=>by
  cases b <;> simp only [AV.deq,sF,sA,decide_eq_true_eq] at h
  rw [sB h.1,h.2.1,sB h.2.2]
 | .eptr l,b,h=>by
  cases b <;> simp only [AV.deq,sF] at h
  rw [zdg l h]
 | .row k w,b,h=>by
  cases b <;> simp only [AV.deq,sF,sA] at h
  rw [sB h.1,Win.deq_eq h.2]
 | .vsl a b' c d e,b,h=>by
  cases b <;> simp only [AV.deq,sF,sA] at h
  rw [sB h.1,sB h.2.1,sB h.2.2.1,sB h.2.2.2.1,sB h.2.2.2.2]
 | .fn f l,b,h=>by
  cases b <;> simp only [AV.deq,sF,sA] at h
  rw [sB h.1,zdg l h.2]
 | .mfn f l,b,h=>by
  cases b <;> simp only [AV.deq,sF,sA] at h
  rw [sB h.1,zdg l h.2]
 | .nilf,b,h=>by cases b <;> simp only [AV.deq,sF] at h; rfl
 | .yld k,b,h=>by
  cases b <;> simp only [AV.deq,sF] at h
  rw [sB h]
 | .iface t v,b,h=>by
  cases b <;> simp only [AV.deq,sF,sA] at h
  rw [sB h.1,AV.deq_eq v h.2]
 | .nili,b,h=>by cases b <;> simp only [AV.deq,sF] at h; rfl
 | .nilm,b,h=>by cases b <;> simp only [AV.deq,sF] at h; rfl
 | .mp k,b,h=>by
  cases b <;> simp only [AV.deq,sF] at h
  rw [sB h]
 | .junk,b,h=>by cases b <;> simp only [AV.deq,sF] at h; rfl
theorem zdg:∀ (l:List AV) {m:List AV},deqL l m = true→l = m
 | [],m,h=>by cases m <;> simp only [deqL,sF] at h; rfl
 | a :: l,m,h=>by
  cases m <;> simp only [deqL,sF,sA] at h
  rw [AV.deq_eq a h.1,zdg l h.2]
end
def zjP (a b:Env):Bool:=zbP (fun x y=>Nat.beq x.1 y.1 && x.2.deq y.2) a b
theorem zfu {a b:Env} (h:zjP a b = true):a = b:=zbd (fun x y h=>by
 simp only [sA] at h
 exact Prod.ext (sB h.1) (AV.deq_eq _ h.2)) h
def zgr (K V:Ty) (l:List (K.den × V.den)) (K' V':Ty) (m:List (K'.den × V'.den)):Bool:=if h:K' = K∧V' = V then zbP (fun x y=>K.deq x.1 y.1 && V.deq x.2 y.2) l (h.1 ▸ h.2 ▸ m) else false
theorem zd9 {K V:Ty} {l:List (K.den × V.den)} {K' V':Ty} {m:List (K'.den × V'.den)} (h:zgr K V l K' V' m = true):K = K'∧V = V'∧HEq l m:=by
 unfold zgr at h
 split at h
 ·rename_i e
  obtain ⟨rfl,rfl⟩:=e
  refine ⟨rfl,rfl,heq_of_eq (zbd (fun x y h=>?_) h)⟩
  simp only [sA] at h
  exact Prod.ext (Ty.deq_eq _ _ _ h.1) (Ty.deq_eq _ _ _ h.2)
 ·cases h
def Box.deq (a b:Box):Bool :=
 match a with
 | .var l=>(match b with | .var m=>deqL l m | _=>false)
 | .row T f l=>(match b with | .row S g m=>decide (f = g) && tlDeq T l S m | _=>false)
 | .map K V l=>(match b with | .map K' V' m=>zgr K V l K' V' m | _=>false)
 | .fmap K V l=>(match b with | .fmap K' V' m=>zgr K V l K' V' m | _=>false)
 | .iter K V l c=>(match b with | .iter K' V' m d=>zgr K V l K' V' m && zgr K V c.toList K' V' d.toList | _=>false)
 | .loop u f i e=>(match b with | .loop u' f' i' e'=>decide (u = u') && (Nat.beq f f' && (Nat.beq i i' && zjP e e')) | _=>false)
 | .dead=>(match b with | .dead=>true | _=>false)
theorem Box.deq_eq {a b:Box} (h:a.deq b = true):a = b:=by
 cases a <;> cases b <;> simp only [Box.deq,sF,sA,decide_eq_true_eq] at h
 case var.var=>rw [zdg _ h]
 case row.row=>obtain ⟨rfl,h⟩:=h; obtain ⟨rfl,e⟩:=zg4 h; rw [eq_of_heq e]
 case map.map=>obtain ⟨rfl,rfl,e⟩:=zd9 h; rw [eq_of_heq e]
 case fmap.fmap=>obtain ⟨rfl,rfl,e⟩:=zd9 h; rw [eq_of_heq e]
 case iter.iter =>
  obtain ⟨rfl,rfl,e⟩:=zd9 h.1
  obtain ⟨_,_,e2⟩:=zd9 h.2
  rw [eq_of_heq e]
  have e3:=eq_of_heq e2
  rename_i c _ d
  have ho:=congrArg List.head? e3
  have hc:∀ {α:Type} (o:Option α),o.toList.head? = o:=fun o=>by cases o <;> rfl
  rw [hc,hc] at ho
  rw [ho]
 case loop.loop=>rw [h.1,sB h.2.1,sB h.2.2.1,zfu h.2.2.2]
 case dead.dead=>rfl
def St.deq (a b:St):Bool:=zjP a.env b.env && (zbP zjP a.stk b.stk && zbP (fun x y=>Nat.beq x.1 y.1 && x.2.deq y.2) a.bxs b.bxs)
theorem St.deq_eq {a b:St} (h:a.deq b = true):a = b:=by
 simp only [St.deq,sA] at h
 cases a; cases b
 simp only at h
 rw [zfu h.1,zbd (fun _ _=>zfu) h.2.1,zbd (fun x y h=>by
  simp only [sA] at h
  exact Prod.ext (sB h.1) (Box.deq_eq h.2)) h.2.2]
def insA {α:Type} (k:Nat) (v:α):List (Nat × α)→List (Nat × α)
 | []=>[(k,v)]
 | (j,u) :: l=>bif Nat.blt k j then (k,v) :: (j,u) :: l else bif Nat.beq k j then (k,v) :: l else (j,u) :: insA k v l
def normA {α:Type}:List (Nat × α)→List (Nat × α)
 | []=>[]
 | (k,v) :: l=>insA k v (normA l)
def normSt (s:St):St:={ env:=normA s.env,stk:=s.stk,bxs:=normA s.bxs }
def zfv (bx:Bxs):AV→Bool
 | .full _ (_ :: _)=>true
 | .val (.sl _) (_ :: _)=>true
 | .vsl _ _ _ _ _=>true
 | .row b w=>match find bx b with
  | some (.row _ _ l)=>!(w.app l).isEmpty
  | _=>false
 | _=>false
def nilSl (C:Cfg) (op:BinOp) (t:Nat):Option AV :=
 match C.under t with
 | .sl _=>match op with
  | .eql=>some (.val .bool false)
  | .neq=>some (.val .bool true)
  | _=>none
 | _=>none
def zli (C:Cfg) (s:St) (t:Nat) (m k:Operand):Option Unit :=
 match C.under t,ev C s.env m,ev C s.env k with
 | .map kt e,some (.mp b),some k=>match C.zero e,mapAt s.bxs b with
  | some [.nils],some ⟨K,V,l⟩=>if K.keyOk = true∧C.ty kt = some K∧zd8 C kt K = true∧(C.under e).agg = false∧(C.under e).conc = true then
    match norm s.bxs K k with
    | some x=>bif zaY K V l x then none else some ()
    | none=>none
   else none
  | _,_=>none
 | _,_,_=>none
def picks {α:Type}:List α→List (α × List α)
 | []=>[]
 | x :: l=>(x,l) :: (picks l).map fun p=>(p.1,x :: p.2)
noncomputable def anyOf {α R:Type} (f:α→Option R):List α→Option R
 | []=>none
 | [x]=>f x
 | x :: y :: l=>same (f x) (anyOf f (y :: l))
theorem zgs {α R:Type} {f:α→Option R}:∀ {l:List α} {r:R},anyOf f l = some r→∀ x∈l,f x = some r
 | [],_,h,_,_=>nomatch h
 | [x],r,h,y,hy=>by
  have:y = x:=by simpa using hy
  subst this
  exact h
 | x :: y :: l,r,h,z,hz=>by
  obtain ⟨h1,h2⟩:=zfs h
  rcases List.mem_cons.1 hz with rfl | hz
  ·exact h1
  ·exact zgs h2 z hz
section
variable {R:Type} (E:Env0)
def callP (p:PSpec) (args:List AV) (s:St) (K:AV→St→Option R):Option R :=
 let bx:=bif p.res.all scalar then zhX s.bxs else frzL s.bxs args
 argsK bx p.args args fun x=>(p.fn x).bind fun y=>K (resAV p.res y) (bif p.res.all scalar then s else { s with bxs:=frzL s.bxs args })
def callR (p:RSpec) (key:Nat) (args:List AV) (s:St) (K:AV→St→Option R):Option R :=
 match find (frzL s.bxs args) key with
 | none=>argsK (frzL s.bxs args) p.args args fun x=>(p.fn x).bind fun l=>K (.row key .whole) { s with bxs:=(key,.row p.T p.fz l) :: frzL s.bxs args }
 | some _=>none
def zeG (q:Nat):List AV→Option (List AV)
 | []=>none
 | v :: l=>match l with
  | []=>(match v with
   | .fn f []=>bif Nat.beq f q then some [] else none
   | _=>none)
  | l=>(zeG q l).map (v :: ·)
def callM (p:MSpec) (key:Nat) (args:List AV) (s:St) (K:AV→St→Option R):Option R :=
 match zeG p.arg args with
 | some vs=>match find (frzL s.bxs vs) key with
  | none=>argsK (frzL s.bxs vs) p.args vs fun x=>(p.fn x).bind fun l=>K (.mp key) { s with bxs:=(key,.map p.K p.V l) :: frzL s.bxs vs }
  | some _=>none
 | none=>none
def callS (c:CSpec) (args:List AV) (s:St) (K:AV→St→Option R):Option R :=
 match zeF c.thaws { env:=params 0 args,stk:=s.env :: s.stk,bxs:=s.bxs } with
 | some s1 =>
  let bx:=frzL s1.bxs (zde s1.env c.args++zbs s1.bxs c.ins)
  zdf bx s1.env c.args fun xa=>zb3 bx c.ins fun xb=>(c.fn (xa,xb)).bind fun y=>match s1.stk with
   | env :: stk =>
    let s2:=zcT (zaq c.ins) { env:=env,stk:=stk,bxs:=bx }
    K (tup1 (encV c.res y.1)) { s2 with bxs:=zjO (zar c.outs y.2) s2.bxs }
   | []=>none
 | none=>none
def callI (p:ISpec) (args:List AV) (s:St) (K:AV→St→Option R):Option R :=
 match args with
 | .row b .whole :: rest=>bif AV.same (.tup rest) (.tup p.rest) then (match find s.bxs b with
  | some (.row T false l)=>if h:T = p.T then (p.fn (h ▸ l)).bind fun y=>K (.tup []) { s with bxs:=setB s.bxs b (.row p.T false y) } else none
  | _=>none) else none
 | _=>none
variable (inl:Nat→Callee→List AV→St→(AV→St→Option R)→(Pan→St→Option R)→Option R)
noncomputable def exec1 (base : Nat) (o : Oper) (s : St) (K : AV → St → Option R) (KP : Pan → St → Option R) : Option R :=
  match o.op with
  | .panic x => match ev E.C s.env x with
    | some v => match panOf v with
      | some p => KP p s
      | none => none
    | none => none
  | .defer { callee := .value f, args, .. } => match ev E.C s.env f, evL E.C s.env args.toList with
    | some (.fn f caps), some vs => bif vs.all AV.okGs then K (.tup []) { s with stk := [(0, .tup (.fn f caps :: vs))] :: s.stk } else none
    | _, _ => none
  | .pick c a b => match ev E.C s.env c with
    | some (.val .bool t) => bif t then (match ev E.C s.env a with | some v => K v s | none => none) else (match ev E.C s.env b with | some v => K v s | none => none)
    | _ => none
  | .call { callee := .value f, args, .. } => match ev E.C s.env f, evL E.C s.env args.toList with
    | some (.fn f caps), some vs => match caps, find E.P f with
      | [], some p => callP p vs s K
      | caps, _ => match caps, find E.R f with
        | [], some p => callR p (base + o.dst.getD 0) vs s K
        | caps, _ => match caps, find E.M f with
         | [], some p => callM p (base + o.dst.getD 0) vs s K
         | caps, _ => match find E.S f with
          | some c => callS c (vs ++ caps) s K
          | none => match find E.I f with
            | some p => callI p (vs ++ caps) s K
            | none => inl (base + o.dst.getD 0) (.fn f) (vs ++ caps) s K KP
    | some (.yld b), some vs => inl (base + o.dst.getD 0) (.yld b) vs s K KP
    | some (.mfn f caps), some vs => inl (base + o.dst.getD 0) (.fn f) (caps ++ vs) s K KP
    | _, _ => none
  | .range t x => match E.C.under t, ev E.C s.env x, find s.bxs (base + o.dst.getD 0) with
    | .map _ _, some (.mp b), none => match mapAt s.bxs b with
      | some ⟨T, V, l⟩ => K (.ptr (base + o.dst.getD 0) 0 []) { s with bxs := (base + o.dst.getD 0, .iter T V l none) :: setB s.bxs b (.fmap T V l) }
      | none => none
    | _, _, _ => none
  | .buildSlice _ _ parts => match execA E.C base o s with
    | some (c, v, e) => bif c then K v (e.apply s) else none
    | none => match evP E.C s.env parts.toList with
      | some vs => (match execA E.C base o { s with bxs := frzL s.bxs (vs.map (·.2)) } with
        | some (c, v, e) => bif c then K v (e.apply { s with bxs := frzL s.bxs (vs.map (·.2)) }) else none
        | none => none)
      | none => none
  | .mapUpdate _ _ _ x => match execA E.C base o s with
    | some (c, v, e) => bif c then K v (e.apply s) else none
    | none => match ev E.C s.env x with
      | some y => (match execA E.C base o { s with bxs := frzL s.bxs [y] } with
        | some (c, v, e) => bif c then K v (e.apply { s with bxs := frzL s.bxs [y] }) else none
        | none => none)
      | none => none
  | .lookup t m k ok => match zli E.C s t m k with
    | some _ => K (bif ok then .tup [.nils, .val .bool false] else .nils) s
    | none => match execA E.C base o s with
      | some (c, v, e) => bif c then K v (e.apply s) else none
      | none => none
  | .binOp op t x (.const (.slice none 0 0)) _ => match ev E.C s.env x with
    | some a => bif zfv s.bxs a then (match nilSl E.C op t with | some v => K v s | none => none) else (match execA E.C base o s with
      | some (c, v, e) => bif c then K v (e.apply s) else none
      | none => none)
    | none => none
  | .insert t m k x => match execA E.C base { o with op := .mapUpdate t m k x } s with
    | some (c, v, e) => bif c then K v (e.apply s) else none
    | none => none
  | .next x false => match ev E.C s.env x with
    | some (.ptr b 0 []) => match iterAt s.bxs b with
      | some ⟨T, V, l⟩ => bif l.isEmpty then K (.tup [.val .bool false]) s else anyOf (fun p => K (.tup [.val .bool true, T.av p.1.1, V.av p.1.2]) { s with bxs := setB s.bxs b (.iter T V p.2 (some p.1)) }) (picks l)
      | none => none
    | _ => none
  | _ => match execA E.C base o s with
    | some (c, v, e) => bif c then K v (e.apply s) else none
    | none => none
noncomputable def zbH (base : Nat) (ops : Array Oper) : List Oper → St → (Ex → St → Option R) → Option R
  | [], s, K => K .normal s
  | o :: rest, s, K => match o.guard with
    | none => exec1 E inl base o s (fun v s => zbH base ops rest { s with env := putE o.dst v s.env } K) fun p s => K (.pan p) s
    | some (j, want) => match (ops[j]?).bind (·.dst) with
      | some d => match find s.env d with
        | some (.val .bool b) =>
          bif b then
            (bif want then exec1 E inl base o { s with env := (d, .val .bool true) :: s.env } (fun v s => zbH base ops rest { s with env := putE o.dst v s.env } K) fun p s => K (.pan p) s
             else zbH base ops rest { s with env := putE o.dst (.tup []) ((d, .val .bool true) :: s.env) } K)
          else
            (bif want then zbH base ops rest { s with env := putE o.dst (.tup []) ((d, .val .bool false) :: s.env) } K
             else exec1 E inl base o { s with env := (d, .val .bool false) :: s.env } (fun v s => zbH base ops rest { s with env := putE o.dst v s.env } K) fun p s => K (.pan p) s)
        | some (.tup []) => zbH base ops rest { s with env := putE o.dst (.tup []) s.env } K
        | _ => none
      | none => none
def deps (o:Oper):List Nat:=(o.after.toList.filter (Region.binds .any)).map (·.on)
def zgt (acc:List Nat) (l:List Nat):Nat:=l.foldl (fun m j=>m ||| (1 <<< j) ||| acc.getD j 0) 0
def masks:List Oper→List Nat→List Nat
 | [],acc=>acc
 | o :: l,acc=>masks l (acc++[zgt acc (deps o)])
def zg5 (o:Oper):Bool :=
 match o.op with
 | .move _ | .assign _ | .pick .. | .build .. | .buildSlice .. | .load .. | .nilCheck _ | .binOp .. | .unOp .. | .convert .. | .fieldAddr .. | .field .. | .indexAddr .. | .index .. | .slice .. | .extract .. | .makeFunc ..=>false
 | .call { callee:=.builtin .len,.. } | .call { callee:=.builtin .min,.. } | .call { callee:=.builtin .max,.. }=>false
 | .call { callee:=.value (.func _),.. }=>false
 | _=>true
def looks (ops : Array Oper) (o : Oper) : List Nat :=
  (o.op.operands.toList.filterMap fun | .tmp t => some t | _ => none) ++
  (match o.guard with
   | some (g, _) => ((ops[g]?).bind (·.dst)).toList
   | none => [])
def ahead (ms:List Nat) (i j:Nat):Bool:=Nat.testBit (ms.getD j 0) i
def zmP (ops:Array Oper) (ms:List Nat) (i:Nat):Bool:=(List.range ops.size).all fun j=>Nat.beq i j || ahead ms i j || ahead ms j i
def zfw (o:Oper):Bool:=o.guard.isNone && match o.op with
 | .alloc _ | .store ..=>true
 | .call { callee:=.builtin .append,.. }=>true
 | _=>false
def opq (ops:Array Oper) (ms:List Nat) (i:Nat) (o:Oper):Bool:=zg5 o && !(zfw o && !zmP ops ms i)
def zea (ops:Array Oper) (ms:List Nat) (i:Nat) (x:Oper) (j:Nat) (y:Oper):Bool :=
 (ahead ms i j || (!opq ops ms i x && !opq ops ms j y &&
  (match x.dst with | some d=>!(looks ops y).contains d | none=>true) && (match y.dst with | some d=>!(looks ops x).contains d | none=>true))) &&
 (match x.dst,y.dst with | some d,some e=>!Nat.beq d e | _,_=>true)
def zg6 (ops:Array Oper) (ms:List Nat) (i:Nat) (x:Oper):Nat→List Oper→Bool
 | _,[]=>true
 | j,y :: l=>zea ops ms i x j y && zg6 ops ms i x (j + 1) l
def allOk (ops:Array Oper) (ms:List Nat):Nat→List Oper→Bool
 | _,[]=>true
 | i,x :: l=>(deps x).all (fun j=>Nat.blt j i) && zg6 ops ms i x (i + 1) l && allOk ops ms (i + 1) l
def zlj (ops:Array Oper):Bool:=allOk ops (masks ops.toList []) 0 ops.toList
def restr (env:Env):List Nat→Env
 | []=>[]
 | t :: l=>match find env t with
  | some v=>(t,v) :: restr env l
  | none=>restr env l
def exec0 (base:Nat) (o:Oper) (s:St) (K:AV→Option R):Option R :=
 match o.op with
 | .pick c a b=>match ev E.C s.env c with
  | some (.val .bool t)=>bif t then (match ev E.C s.env a with | some v=>K v | none=>none) else (match ev E.C s.env b with | some v=>K v | none=>none)
  | _=>none
 | .call { callee:=.value f,args,.. }=>match ev E.C s.env f,evL E.C s.env args.toList with
  | some (.fn f []),some vs=>match find E.P f with
   | some p=>argsK (bif p.res.all scalar then zhX s.bxs else s.bxs) p.args vs fun x=>(p.fn x).bind fun y=>K (resAV p.res y)
   | none=>none
  | _,_=>none
 | _=>match execA E.C base o s with
  | some (c,v,.none)=>bif c then K v else none
  | _=>none
def execG (base:Nat) (ops:Array Oper) (o:Oper) (s:St) (K:AV→St→Option R):Option R :=
 match o.guard with
 | none=>exec0 E base o { s with env:=restr s.env (looks ops o) } fun v=>K v s
 | some (j,want)=>match (ops[j]?).bind (·.dst) with
  | some d=>match find s.env d with
   | some (.val .bool b) =>
    bif b then (bif want then exec0 E base o { s with env:=restr s.env (looks ops o) } fun v=>K v { s with env:=(d,.val .bool true) :: s.env } else K (.tup []) { s with env:=(d,.val .bool true) :: s.env })
    else (bif want then K (.tup []) { s with env:=(d,.val .bool false) :: s.env } else exec0 E base o { s with env:=restr s.env (looks ops o) } fun v=>K v { s with env:=(d,.val .bool false) :: s.env })
   | some (.tup [])=>K (.tup []) s
   | _=>none
  | none=>none
def Eff.kb:Eff→Option (Nat × Box)
 | .add k b | .upd k b=>some (k,b)
 | _=>Option.none
def Eff.lightB:Eff→Bool
 | .app ..=>false
 | _=>true
def zjQ:AV→Bool
 | .nils | .full .. | .val ..=>true
 | _=>false
def zjR:AV→Bool
 | .nils | .full ..=>true
 | _=>false
def AV.isRow:AV→Bool
 | .row _ _=>true
 | _=>false
def AV.noRow (v:AV):Bool:=v.gs.all fun g=>!g.isRow
def zlk (C:Cfg) (env:Env) (t:Nat) (ps:List (Nat × Operand)):Option (List Nat) :=
 match ps with
 | []=>some []
 | p :: l=>bif C.own.any (Nat.beq t) then none else (match evP C env (p :: l) with
  | some vs=>bif vs.all (fun x=>x.2.noRow) then some [] else none
  | none=>none)
def rdOf (C:Cfg) (base:Nat) (o:Oper) (env:Env):Option (List Nat) :=
 match o.guard with
 | some _=>none
 | none=>match o.op with
  | .move _ | .assign _ | .fieldAddr ..=>some []
  | .binOp .. | .unOp .. | .extract .. | .field .. | .index .. | .nilCheck _=>some []
  | .build t ps=>match C.under t with
   | .st _=>some []
   | .arr _ _=>(match evP C env ps.toList with
    | some vs=>bif vs.all (fun x=>x.2.noRow) then some [] else none
    | none=>none)
   | _=>none
  | .buildSlice t _ ps=>zlk C env t ps.toList
  | .alloc _=>some [base + o.dst.getD 0]
  | .indexAddr _ x _=>match ev C env x with
   | some (.row b _)=>some [b]
   | some _=>some []
   | none=>none
  | .slice _ x ..=>match ev C env x with
   | some (.row b _)=>some [b]
   | some _=>some []
   | none=>none
  | .load _ a=>match ev C env a with
   | some (.ptr b _ _)=>some [b]
   | some (.rptr b _ _)=>some [b]
   | some (.eptr _)=>some []
   | _=>none
  | .call { callee:=.builtin .append,args,.. }=>match evL C env args.toList with
   | some [x,y]=>bif zjR x && zjQ y then some [base + o.dst.getD 0] else none
   | _=>none
  | .call { callee:=.value _,args,.. }=>match evL C env args.toList with
   | some vs=>bif vs.all AV.noRow then some [] else none
   | none=>none
  | _=>none
def zfx (o:Oper):Bool :=
 match o.op with
 | .call { callee:=.value _,.. }=>true
 | _=>false
structure Note where
 i:Nat
 rd:Option (List Nat)
 ky:Option Nat
def apart (ms:List Nat) (a:Note) (k:Nat) (b:Note):Bool :=
 Nat.beq a.i b.i || ahead ms a.i b.i || ahead ms b.i a.i || ((match b.rd with | some ks=>!ks.any (Nat.beq k) | none=>false) && (match b.ky with | some j=>!Nat.beq j k | none=>true))
def logOk (ms:List Nat) (log:List Note):Bool:=log.all fun a=>match a.ky with
 | none=>true
 | some k=>log.all (apart ms a k)
noncomputable def zcA (base:Nat) (ops:Array Oper) (ms:List Nat):List Oper→Nat→List Note→St→(Ex→St→Option R)→Option R
 | [],_,log,s,K=>bif logOk ms log then K .normal s else none
 | o :: rest,i,log,s,K=>bif opq ops ms i o then (bif logOk ms log && zbO o then zbH E inl base ops [o] s fun e s=>(match e with | .normal=>zcA base ops ms rest (i + 1) [] s K | e=>K e s) else none)
  else bif zg5 o then
   match execA E.C base o { s with env:=restr s.env (looks ops o) } with
   | some (c,v,e)=>bif e.lightB && c then zcA base ops ms rest (i + 1) (⟨i,rdOf E.C base o (restr s.env (looks ops o)),e.kb.map (·.1)⟩ :: log) { (e.apply s) with env:=putE o.dst v s.env } K else none
   | none=>none
  else execG E base ops o s fun v s'=>zcA base ops ms rest (i + 1) (⟨i,rdOf E.C base o (restr s.env (looks ops o)),none⟩ :: log) { s' with env:=putE o.dst v s'.env } K
def zll (l:LSpec) (s:St) (K:Ex→St→Option R):Option R :=
 match zeF l.thaws s with
 | some s=>l.head.dec s fun x=>(l.fn x).bind fun o=>outK K l.outs o
 | none=>none
def inert (o:Oper):Bool:=o.guard.isNone && match o.op with
 | .move _ | .assign _ | .nilCheck _ | .fieldAddr .. | .extract .. | .indexAddr ..=>true
 | _=>false
def isLoad (o:Oper):Bool:=o.guard.isNone && match o.op with
 | .load ..=>true
 | _=>false
def zdh (o:Oper):Bool:=o.guard.isNone && match o.op with
 | .binOp _ _ _ (.const .nilIface) _=>false
 | .binOp .. | .unOp ..=>true
 | _=>false
def soft (o:Oper):Bool:=inert o || isLoad o || zdh o
def AV.rigid:AV→Bool
 | .row _ .whole | .nils | .nilp | .nilf | .nili | .mp _ | .ptr _ _ []=>true
 | .val (.int _) _ | .val .bool _ | .val .str _=>false
 | _=>false
def AV.scal:AV→Bool
 | .val (.int _) _ | .val .bool _ | .val .str _ | .val (.arr _ (.int _)) _=>true
 | _=>false
def ziY (E:Env0) (s:St) (o:Oper):Bool:=inert o || zdh o || (isLoad o && match o.op with
 | .load _ a=>(match ev E.C s.env a with | some (.eptr _)=>true | _=>false)
 | _=>false)
def zbt (ops:Array Oper):List Nat:=(ops.toList.filter soft).filterMap (·.dst)
def zb4 (ops:Array Oper) (i:Nat) (o:Oper) (held:List Nat):List Nat:=bif soft o then held else held.filter fun p=>!ahead (masks ops.toList []) p i
noncomputable def gates (E:Env0) (base:Nat) (ops:Array Oper) (s:St):List Nat→Option R→Option R
 | [],r=>r
 | p :: l,r=>match ops[p]? with
  | some o=>match execA E.C base o s,o.dst with
   | some (true,v,.none),some d=>match find s.env d with
    | some u=>bif v.rigid then (bif v.same u then gates E base ops s l r else none) else (bif v.scal then zbF v u (gates E base ops s l r) else none)
    | none=>none
   | _,_=>none
  | none=>none
def keeps (ops:Array Oper) (dst:Option Nat) (p:Nat):Bool:=match ops[p]?,dst with
 | some o,some d=>!(looks ops o).contains d && (match o.dst with | some e=>!Nat.beq e d | none=>true)
 | some _,none=>true
 | none,_=>false
def dropE (D:List Nat):Env→Env
 | []=>[]
 | (n,v) :: l=>bif D.contains n then dropE D l else (n,v) :: dropE D l
abbrev Hid:=Option (Nat × Nat × List AV)
def zjS (h:Nat × Nat × List AV) (s:St):Option St:=match find s.bxs h.2.1 with
 | none=>some { s with env:=(h.1,.ptr h.2.1 0 []) :: s.env,bxs:=(h.2.1,.var h.2.2) :: s.bxs }
 | some _=>none
def zg7 (C:Cfg) (base:Nat) (o:Oper):Hid:=match o.guard,o.op,o.dst with
 | none,.alloc t,some d=>(match C.zero t with | some gs=>some (d,base + d,gs) | none=>none)
 | _,_,_=>none
def znI (C:Cfg) (base:Nat) (o:Oper) (h:Hid) (many:Bool):Hid:=bif many then (match h with | some _=>none | none=>zg7 C base o) else none
def zdi (h:Hid) (d:Option Nat):Bool:=match h,d with
 | some h,some d=>!Nat.beq h.1 d
 | _,_=>true
def znJ (ops:Array Oper) (h:Hid) (l:List Nat):Bool:=match h with
 | some h=>l.any fun j=>match ops[j]? with | some o=>(looks ops o).contains h.1 | none=>false
 | none=>false
def maskL:List Bool→Nat
 | []=>0
 | b :: l=>2 * maskL l + (bif b then 1 else 0)
def ordOf (E:Env0) (listed:Array Bool):Nat:=bif E.ord then 1000 * maskL listed.toList else 0
noncomputable def zcB (base:Nat) (ops:Array Oper) (listed:Array Bool) (held:List Nat) (hid:Hid) (many:Bool) (s:St) (K:Ex→St→Option R) (go:Array Bool→List Nat→Hid→St→Option R) (i:Nat):Option R :=
 match ops[i]? with
 | some o=>bif zbO o && held.all (keeps ops o.dst) && zdi hid o.dst then (match znI E.C base o hid many with
  | some h=>gates E base ops { s with env:=putE o.dst .junk s.env } (zb4 ops i o held) (go (listed.setIfInBounds i true) (zb4 ops i o held) (some h) { s with env:=putE o.dst .junk s.env })
  | none=>zbH E (fun b=>inl (b + ordOf E listed)) base ops [o] s fun e s=>(match e with
   | .normal=>gates E base ops s (zb4 ops i o held) (go (listed.setIfInBounds i true) (zb4 ops i o held) hid s)
   | e=>K e { s with env:=dropE (zbt ops) s.env })) else none
 | none=>none
noncomputable def zdN (sm:Option R→Option R→Option R) (br:Option (Array Bool→List Nat→Hid→St→Option R)) (base:Nat) (ops:Array Oper):Nat→Array Bool→List Nat→Hid→St→(Ex→St→Option R)→Option R
 | 0,_,_,_,_,_=>none
 | n + 1,listed,held,hid,s,K=>match Region.ready .any ops listed with
  | []=>(match hid with
   | none=>K .normal s
   | some h=>(match zjS h s with | some s=>K .normal s | none=>none))
  | i :: l=>bif znJ ops hid (i :: l) then (match hid with
    | some h=>(match zjS h s with | some s=>zdN sm br base ops n listed held none s K | none=>none)
    | none=>none) else
   match (i :: l).find? (fun j=>Region.free .any ops listed j && (match ops[j]? with | some o=>ziY E s o | none=>false)) with
   | some j=>match ops[j]? with
    | some o=>match execA E.C base o s with
     | some (c,v,.none)=>bif held.all (keeps ops o.dst) && (!zdh o || v.scal) && (zdi hid o.dst && c) then zdN sm br base ops n (listed.setIfInBounds j true) held hid { s with env:=putE o.dst v s.env } K else none
     | _=>none
    | none=>none
   | none=>match l with
    | []=>zcB E inl base ops listed held hid false s K (fun a b h c=>zdN sm br base ops n a b h c K) i
    | _=>match (i :: l).find? (fun j=>Region.free .any ops listed j && (match ops[j]? with | some o=>isLoad o && (match execA E.C base o s with | some (_,v,_)=>v.rigid || (E.sym && v.scal) | none=>false) | none=>false)) with
     | some j=>match ops[j]? with
      | some o=>match execA E.C base o s,o.dst with
       | some (c,v,.none),some d=>bif (zdi hid o.dst && c) && (v.rigid || (E.sym && v.scal)) && held.all (keeps ops o.dst) && !(looks ops o).contains d then zdN sm br base ops n (listed.setIfInBounds j true) (j :: held) hid { s with env:=putE o.dst v s.env } K else none
       | _,_=>none
      | none=>none
     | none=>match br with
      | none=>zft sm (zcB E inl base ops listed held hid true s K (fun a b h c=>zdN sm br base ops n a b h c K)) (zcB E inl base ops listed held hid true s K (fun a b h c=>zdN sm br base ops n a b h c K) i) l
      | some go=>zft sm (zcB E inl base ops listed held hid false s K go) (zcB E inl base ops listed held hid false s K go i) l
def zlm (body:Nat→St→(Ex→St→Option R)→Option R):Nat→St→(Ex→St→Option R)→Option R
 | 0,_,_=>none
 | n + 1,s,K=>body n s fun e s=>match e with
  | .normal=>zlm body n s K
  | e=>K e s
def isYld (env:Env) (b:Nat):Bool :=
 match find env 0 with
 | some (.yld c)=>Nat.beq c b
 | _=>false
abbrev Ent:=Array Bool × List Nat × Hid × St
def zln:Hid→Hid→Bool
 | none,none=>true
 | some a,some b=>Nat.beq a.1 b.1 && (Nat.beq a.2.1 b.2.1 && deqL a.2.2 b.2.2)
 | _,_=>false
theorem zlo {a b:Hid} (h:zln a b = true):a = b:=by
 cases a <;> cases b <;> simp only [zln,sF,sA] at h
 ·rfl
 ·rename_i x y
  obtain ⟨x1,x2,x3⟩:=x
  obtain ⟨y1,y2,y3⟩:=y
  simp only at h
  rw [sB h.1,sB h.2.1,zdg _ h.2.2]
def zfg (a b:Array Bool):Bool:=zbP (fun x y=>decide (x = y)) a.toList b.toList
theorem ziZ {a b:Array Bool} (h:zfg a b = true):a = b:=Array.toList_inj.1 (zbd (fun _ _ h=>of_decide_eq_true h) h)
def Ent.deq (a b:Ent):Bool:=zfg a.1 b.1 && (zbP Nat.beq a.2.1 b.2.1 && (zln a.2.2.1 b.2.2.1 && a.2.2.2.deq b.2.2.2))
theorem Ent.deq_eq {a b:Ent} (h:Ent.deq a b = true):a = b:=by
 obtain ⟨a1,a2,a3,a4⟩:=a
 obtain ⟨b1,b2,b3,b4⟩:=b
 simp only [Ent.deq,sA] at h
 rw [ziZ h.1,zbd (fun _ _ h=>sB h) h.2.1,zlo h.2.2.1,St.deq_eq h.2.2.2]
abbrev LRes:=List (Ent ⊕ (Ex × St))
def zfy (x:Ent ⊕ (Ex × St)):LRes→Option LRes
 | []=>some [x]
 | y :: l=>match x,y with
  | .inl a,.inl b=>bif zfg a.1 b.1 then (bif Ent.deq a b then some (y :: l) else none) else (zfy x l).map (y :: ·)
  | .inr a,.inr b=>bif decide (a.1 = b.1) && a.2.deq b.2 then some (y :: l) else none
  | _,_=>(zfy x l).map (y :: ·)
theorem zgu {x:Ent ⊕ (Ex × St)}:∀ {l r:LRes},zfy x l = some r→x∈r∧∀ y∈l,y∈r
 | [],r,h=>by
  simp only [zfy,sI] at h
  subst h
  simp
 | y :: l,r,h=>by
  have rest:(zfy x l).map (y :: ·) = some r→x∈r∧∀ z∈y :: l,z∈r:=by
   intro h
   rw [Option.map_eq_some_iff] at h
   obtain ⟨r',h1,rfl⟩:=h
   obtain ⟨h2,h3⟩:=zgu h1
   refine ⟨List.mem_cons_of_mem _ h2,fun z hz=>?_⟩
   rcases List.mem_cons.1 hz with rfl | hz
   ·exact List.mem_cons_self ..
   ·exact List.mem_cons_of_mem _ (h3 z hz)
  simp only [zfy] at h
  split at h
  ·rename_i a b
   cases h1:zfg a.1 b.1 with
   | false=>rw [h1,cond_false] at h; exact rest h
   | true =>
    rw [h1,cond_true] at h
    cases h2:Ent.deq a b with
    | false=>rw [h2] at h; cases h
    | true =>
     rw [h2,cond_true] at h
     cases h
     rw [Ent.deq_eq h2]
     exact ⟨List.mem_cons_self ..,fun _ h=>h⟩
  ·rename_i a b
   cases h1:decide (a.1 = b.1) && a.2.deq b.2 with
   | false=>rw [h1] at h; cases h
   | true =>
    rw [h1,cond_true] at h
    simp only [sA,decide_eq_true_eq] at h1
    cases h
    rw [show a = b from Prod.ext h1.1 (St.deq_eq h1.2)]
    exact ⟨List.mem_cons_self ..,fun _ h=>h⟩
  ·exact rest h
def zgv:LRes→LRes→Option LRes
 | [],acc=>some acc
 | x :: l,acc=>(zfy x acc).bind (zgv l)
theorem zeH:∀ {l acc r:LRes},zgv l acc = some r→(∀ x∈l,x∈r)∧∀ x∈acc,x∈r
 | [],acc,r,h=>by
  simp only [zgv,sI] at h
  subst h
  exact ⟨fun _ h=>(nomatch h),fun _ h=>h⟩
 | x :: l,acc,r,h=>by
  simp only [zgv,Option.bind_eq_some_iff] at h
  obtain ⟨acc',h1,h2⟩:=h
  obtain ⟨h3,h4⟩:=zgu h1
  obtain ⟨h5,h6⟩:=zeH h2
  refine ⟨fun y hy=>?_,fun y hy=>h6 y (h4 y hy)⟩
  rcases List.mem_cons.1 hy with rfl | hy
  ·exact h6 _ h3
  ·exact h5 y hy
def zlp (a b:Option LRes):Option LRes :=
 match a,b with
 | some a,some b=>zgv a b
 | _,_=>none
theorem zi0 {a b:Option LRes} {r:LRes} (h:zlp a b = some r):(∃ ra,a = some ra∧∀ x∈ra,x∈r)∧(∃ rb,b = some rb∧∀ x∈rb,x∈r):=by
 unfold zlp at h
 split at h
 ·obtain ⟨h1,h2⟩:=zeH h
  exact ⟨⟨_,rfl,h1⟩,⟨_,rfl,h2⟩⟩
 ·cases h
variable (inlL:Nat→Callee→List AV→St→(AV→St→Option LRes)→(Pan→St→Option LRes)→Option LRes)
noncomputable def zfz (base:Nat) (ops:Array Oper):List Ent→LRes→Option LRes
 | [],acc=>some acc
 | e :: L,acc=>match zdN E inlL zlp (some fun a b h s=>some [.inl (a,b,h,normSt s)]) base ops (ops.size + 3) e.1 e.2.1 e.2.2.1 e.2.2.2 (fun x s=>some [.inr (x,normSt s)]) with
  | some ra=>(zgv ra acc).bind (zfz base ops L)
  | none=>none
def zeb:LRes→List Ent × LRes
 | []=>([],[])
 | .inl e :: l=>(e :: (zeb l).1,(zeb l).2)
 | .inr y :: l=>((zeb l).1,.inr y :: (zeb l).2)
noncomputable def zjT (base:Nat) (ops:Array Oper):Nat→List Ent→LRes→Option (Ex × St)
 | 0,_,_=>none
 | n + 1,L,acc=>match zfz E inlL base ops L acc with
  | some R=>match zeb R with
   | ([],[.inr x])=>some x
   | ([],_)=>none
   | (L',outs)=>zjT base ops n L' outs
  | none=>none
noncomputable def runC (d f base:Nat):Code→St→(Ex→St→Option R)→Option R
 | .skip,s,K=>K .normal s
 | .region id ops draw,s,K=>bif draw then (bif (E.totOf f).contains id then (bif E.vary && !E.sym then (zjT E inlL base ops (ops.size + 3) [(Array.replicate ops.size false,[],none,s)] []).bind (fun p=>K p.1 p.2) else zdN E inl same none base ops (ops.size + 3) (Array.replicate ops.size false) [] none s K) else zcA E inl base ops (masks ops.toList []) ops.toList 0 [] s K) else zbH E inl base ops ops.toList s K
 | .seq a b,s,K=>runC d f base a s fun e s=>match e with
  | .normal=>runC d f base b s K
  | e=>K e s
 | .cond c a b,s,K=>match ev E.C s.env c with
  | some (.val .bool t)=>bif t then runC d f base a s K else runC d f base b s K
  | _=>none
 | .block id c,s,K=>runC d f base c s fun e s=>match e with
  | .exit i=>bif Nat.beq i id then K .normal s else K (.exit i) s
  | e=>K e s
 | .loop c,s,K=>match findL E.L ⟨d,base,f,zas c⟩ with
  | some l=>zll l s K
  | none=>zlm (fun k s K=>runC d f (bif E.vary then (base + 999) * 1000000 + k * 1000 else base) c s K) E.fuel s K
 | .exit id,s,K=>K (.exit id) s
 | .ret,s,K=>K .ret s
 | .scope c,s,K=>runC d f base c s K
 | .label _,s,K=>K .normal s
 | .rangeFunc q _ a b,s,K=>match ev E.C s.env q with
  | some (.fn f' caps)=>match find s.bxs (zcS base a b) with
   | none=>inl (zcS base a b) (.fn f') (.yld (zcS base a b) :: caps) { env:=[(0,.yld (zcS base a b))],stk:=s.env :: s.stk,bxs:=(zcS base a b,.loop false f (rid a b) s.env) :: s.bxs } (fun _ s' =>
    match s'.stk,find s'.bxs (zcS base a b) with
    | env :: stk,some (.loop false _ _ _)=>bif isYld s'.env (zcS base a b) then K .normal { env:=env,stk:=stk,bxs:=setB s'.bxs (zcS base a b) .dead } else none
    | _,_=>none) fun _ _=>none
   | some _=>none
  | _=>none
 | _,_,_=>none
end
def putL:List Nat→List AV→Env→Env
 | p :: ps,v :: vs,env=>putL ps vs ((p,v) :: env)
 | _,_,env=>env
inductive Md where
 | ret | pan (p:Pan) | rcv (p:Pan)
 deriving DecidableEq
def zdV {R:Type} (E:Env0) (base:Nat):List Oper→Md→St→(Md→St→Option R)→Option R
 | [],m,s,K=>K m s
 | o :: rest,m,s,K=>match o.guard with
  | some _=>none
  | none=>match o.op with
   | .call { callee:=.builtin .recover,.. }=>match m with
    | .pan p=>zdV E base rest (.rcv p) { s with env:=putE o.dst p.av s.env } K
    | m=>zdV E base rest m { s with env:=putE o.dst .nili s.env } K
   | _=>match execA E.C base o s with
    | some (c,v,e)=>bif c then zdV E base rest m { (e.apply s) with env:=putE o.dst v (e.apply s).env } K else none
    | none=>none
def zgw (ops:Array Oper):Bool:=ops.toList.any fun o=>match o.op with
 | .call { callee:=.builtin .recover,.. }=>true
 | _=>false
noncomputable def runCD {R:Type} (E:Env0) (inl:Nat→Callee→List AV→St→(AV→St→Option R)→(Pan→St→Option R)→Option R) (inlL:Nat→Callee→List AV→St→(AV→St→Option LRes)→(Pan→St→Option LRes)→Option LRes) (d f base:Nat):Code→Md→St→(Ex→Md→St→Option R)→Option R
 | .seq a b,m,s,K=>runCD E inl inlL d f base a m s fun e m s=>match e with
  | .normal=>runCD E inl inlL d f base b m s K
  | e=>K e m s
 | .cond c a b,m,s,K=>match ev E.C s.env c with
  | some (.val .bool t)=>bif t then runCD E inl inlL d f base a m s K else runCD E inl inlL d f base b m s K
  | _=>none
 | .region id ops draw,m,s,K=>bif zgw ops && !draw then zdV E base ops.toList m s fun m s=>K .normal m s else bif zaO (E.totOf f) (.region id ops draw) then runC E inl inlL d f base (.region id ops draw) s fun e s'=>bif Nat.beq s'.stk.length s.stk.length then K e m s' else none else none
 | c,m,s,K=>bif zaO (E.totOf f) c then runC E inl inlL d f base c s fun e s'=>bif Nat.beq s'.stk.length s.stk.length then K e m s' else none else none
noncomputable def zcF {R:Type} (E:Env0) (inl:Nat→Callee→List AV→St→(AV→St→Option R)→(Pan→St→Option R)→Option R) (inlL:Nat→Callee→List AV→St→(AV→St→Option LRes)→(Pan→St→Option LRes)→Option LRes) (d base:Nat) (K:Md→St→Option R):Nat→Md→St→Option R
 | 0,m,s=>K m s
 | n + 1,m,s=>match s.stk with
  | dfr :: stk=>match find dfr 0 with
   | some (.tup (.fn f caps :: vs))=>match find E.F f with
    | some fn=>match fn.body with
     | some c=>runCD E inl inlL d f (base * 1000 + 500 + n) c m { env:=params 0 (vs++caps),stk:=s.env :: stk,bxs:=s.bxs } fun e m s'=>match e,s'.stk,m with
      | .exit _,_,_=>none
      | .pan p,env :: stk,.ret=>zcF E inl inlL d base K n (.pan p) { env:=env,stk:=stk,bxs:=s'.bxs }
      | .pan _,_,_=>none
      | _,env :: stk,m=>match resOf E.C s' fn.results.toList with
       | some _=>zcF E inl inlL d base K n (match m with | .rcv _=>.ret | m=>m) { env:=env,stk:=stk,bxs:=s'.bxs }
       | none=>none
      | _,[],_=>none
     | none=>none
    | none=>none
   | _=>none
  | []=>none
def mdOf:Ex→Option Md
 | .exit _=>none
 | .pan p=>some (.pan p)
 | _=>some .ret
noncomputable def zak {R:Type} (E:Env0):Nat→Nat→Callee→List AV→St→(AV→St→Option R)→(Pan→St→Option R)→Option R
 | 0,_,_,_,_,_,_=>none
 | d + 1,base,.fn f,args,s,K,KP=>match find E.F f with
  | some fn=>match fn.body with
   | some c=>runC E (zak E d) (zak E d) d f (base * 1000) c { env:=params 0 args,stk:=s.env :: s.stk,bxs:=s.bxs } fun e s' =>
    match mdOf e with
    | none=>none
    | some m=>zcF E (zak E d) (zak E d) d base (fun m s'=>match m,s'.stk with
     | .pan p,env :: stk=>KP p { env:=env,stk:=stk,bxs:=s'.bxs }
     | .ret,env :: stk=>match resOf E.C s' fn.results.toList with
      | some vs=>K (tup1 vs) { env:=env,stk:=stk,bxs:=s'.bxs }
      | none=>none
     | _,_=>none) (s'.stk.length - (s.stk.length + 1)) m s'
   | none=>none
  | none=>none
 | d + 1,base,.yld b,args,s,K,_=>match find s.bxs b with
  | some (.loop false f id env)=>match find E.F f with
   | some fn=>match fn.body with
    | some c=>match find (zal fn.ntmps c) id with
     | some cd=>bif Nat.beq cd.ps.length args.length && (zaO (E.totOf f) cd.assign && zaO (E.totOf f) cd.body) then
       runC E (zak E d) (zak E d) d f (base * 1000) cd.assign { env:=putL cd.ps args env,stk:=[(0,.yld b)] :: s.env :: s.stk,bxs:=s.bxs } fun e s1=>match e,s1.stk,find s1.bxs b with
        | .normal,e0 :: _,some (.loop false f1 i1 env1)=>bif isYld e0 b && (Nat.beq f1 f && Nat.beq i1 id) then
          runC E (zak E d) (zak E d) d f (base * 1000) cd.body { s1 with bxs:=setB s1.bxs b (.loop true f id env1) } fun e s2=>match e,s2.stk,find s2.bxs b with
           | .normal,e1 :: env0 :: stk,some (.loop true f2 i2 env2)=>bif isYld e1 b && (Nat.beq f2 f && Nat.beq i2 id) then K (.val .bool true) { env:=env0,stk:=stk,bxs:=setB s2.bxs b (.loop false f id env2) } else none
           | _,_,_=>none
         else none
        | _,_,_=>none
      else none
     | none=>none
    | none=>none
   | none=>none
  | _=>none
def depth:Nat:=12
def resK {R:Type} (bx:Bxs):(l:List Ty)→List AV→(tysDen l→Option R)→Option R
 | [],[],K=>K ()
 | T :: l,v :: vs,K=>match norm (zhX bx) T v with
  | some x=>resK bx l vs fun y=>K (x,y)
  | none=>none
 | _,_,_=>none
noncomputable def runF (E:Env0) (f:Nat) (fn:Func) (c:Code) (args res:List Ty) (x:tysDen args):Option (tysDen res) :=
 runC E (zak E depth) (zak E depth) depth f 0 c { env:=params 0 (tysAV args x),stk:=[],bxs:=[] } fun e s =>
  match mdOf e with
  | none=>none
  | some m=>zcF E (zak E depth) (zak E depth) depth 0 (fun m s=>match m with
   | .ret=>match resOf E.C s fn.results.toList with
    | some vs=>resK s.bxs res vs some
    | none=>none
   | _=>none) s.stk.length m s
def zjU (bx:Bxs) (K V:Ty):AV→Option (List (K.den × V.den))
 | .mp b=>match find bx b with
  | some (.map K' V' l)=>if h:K' = K then (if h2:V' = V then some (by subst h; subst h2; exact l) else none) else none
  | _=>none
 | _=>none
noncomputable def runM (E:Env0) (f:Nat) (fn:Func) (c:Code) (vs:List AV) (K V:Ty):Option (List (K.den × V.den)) :=
 runC E (zak E depth) (zak E depth) depth f 0 c { env:=params 0 vs,stk:=[],bxs:=[] } fun e s =>
  match mdOf e with
  | none=>none
  | some m=>zcF E (zak E depth) (zak E depth) depth 0 (fun m s=>match m with
   | .ret=>match resOf E.C s fn.results.toList with
    | some [v]=>zjU s.bxs K V v
    | _=>none
   | _=>none) s.stk.length m s
section
variable {R:Type}
def decV (bx:Bxs):(l:List Sh)→List AV→(shDen l→Option R)→Option R
 | [],[],K=>K ()
 | .ty T :: l,v :: vs,K=>match norm bx T v with
  | some x=>decV bx l vs fun y=>K (x,y)
  | none=>none
 | .cst c :: l,v :: vs,K=>bif v.same c then decV bx l vs K else none
 | .dyn k :: l,v :: vs,K=>match k.of bx v with
  | some x=>decV bx l vs fun y=>K (x,y)
  | none=>none
 | _,_,_=>none
end
def zgx (env:Env):Env→Bool
 | []=>true
 | (n,v) :: l=>(match find env n with | some u=>u.same v | none=>false) && zgx env l
noncomputable def runS (E:Env0) (f:Nat) (fn:Func) (c:Code) (p:CSpec) (x:envDen p.args × bxsDen p.ins):Option (shDen p.res × bxsDen p.outs) :=
 runC E (zak E depth) (zak E depth) depth f 0 c { env:=zdd p.args x.1,stk:=[zaS 0 p.ins],bxs:=zar p.ins x.2 } fun e s =>
  match mdOf e with
  | none=>none
  | some m=>zcF E (zak E depth) (zak E depth) depth 0 (fun m s=>match m with
   | .ret=>match resOf E.C s fn.results.toList with
    | some vs =>
     let bx:=frzL s.bxs (tyGs p.res vs++zbs s.bxs p.outs)
     bif (match s.stk with | [e]=>zgx e (zaS 0 p.ins) | _=>false) then decV bx p.res vs fun ya=>zb3 bx p.outs fun yb=>some (ya,yb) else none
    | none=>none
   | _=>none) (s.stk.length - 1) m s
noncomputable def runB (E:Env0) (d f base:Nat) (c:Code) (l:LSpec) (again:l.head.den→Option (outDen l.outs)) (x:l.head.den):Option (outDen l.outs) :=
 runC E (zak E d) (zak E d) d f base c (l.head.enc x) fun e s =>
  match e with
  | .normal=>l.head.dec s again
  | e=>zgq e s l.outs
def zaz:Code→List Code
 | .seq a b=>zaz a++zaz b
 | .cond _ a b=>zaz a++zaz b
 | .block _ c=>zaz c
 | .scope c=>zaz c
 | .loop c=>c :: zaz c
 | .rangeFunc _ _ a b=>zaz a++zaz b
 | _=>[]
def findLoop:List Code→Nat→Code
 | [],_=>.skip
 | c :: l,id=>bif Nat.beq (zas c) id then c else findLoop l id
def zao (c:Code) (id:Nat):Code:=findLoop (zaz c) id
def idsOk:List Nat→Bool
 | []=>true
 | i :: l=>!l.contains i && idsOk l
def dstOk (n:Nat) (o:Oper):Bool :=
 match o.dst with
 | some d=>Nat.blt d n
 | none=>true
def za6 (n:Nat):Code→Bool
 | .region _ ops _=>ops.toList.all (dstOk n)
 | .seq a b=>za6 n a && za6 n b
 | .cond _ a b=>za6 n a && za6 n b
 | .block _ c=>za6 n c
 | .scope c=>za6 n c
 | .loop c=>za6 n c
 | .rangeFunc _ ps a b=>ps.toList.all (fun p=>Nat.blt p n) && (za6 n a && za6 n b)
 | _=>true
def zjV:Nat→List Oper→Bool
 | _,[]=>true
 | i,x :: l=>(deps x).all (fun j=>Nat.blt j i) && zjV (i + 1) l
def zaW (tot:List Nat):Code→Bool
 | .region id ops draw=>!draw || (bif tot.contains id then Region.noSelect ops && zjV 0 ops.toList else zlj ops)
 | .seq a b=>zaW tot a && zaW tot b
 | .cond _ a b=>zaW tot a && zaW tot b
 | .block _ c=>zaW tot c
 | .scope c=>zaW tot c
 | .loop c=>zaW tot c
 | .rangeFunc _ _ a b=>zaW tot a && zaW tot b
 | _=>true
def funOk (tot:List Nat) (fn:Func):Bool :=
 match fn.body with
 | some c => (za6 fn.ntmps c && zaW tot c) && idsOk ((zaz c).map zas) && idsOk ((zal fn.ntmps c).map (·.1)) && decide (fn.params.size + fn.nfree ≤ fn.ntmps) && !(fn.name == "runtime.NumGoroutine")
 | none=>false
end Go.V
namespace Go.V
class Codes where
 cd:Nat→Nat→Option LCode
variable [Codes]
structure Gb where
 isRow:Bool
 own:Bool
 blk:Option Nat
 off:Nat
 len:Nat
 cap:Nat
 sz:Nat
 ad:Option Addr
structure Gh where
 fz:Nat→Nat→Option Value
 bx:Nat→Option Gb
def Elems {α:Type} (R:α→List Value→Prop):List α→List Value→Prop
 | [],cs=>cs = []
 | x :: l,cs=>∃ c1 c2,cs = c1++c2∧R x c1∧Elems R l c2
def Fz (fz:Nat→Nat→Option Value) (blk off:Nat) (cs:List Value):Prop:=∀ j v,cs[j]? = some v→fz blk (off + j) = some v
def SlR {α:Type} (R:α→List Value→Prop) (fz:Nat→Nat→Option Value) (l:List α) (v:Value):Prop :=
 (l = []∧∃ a,v = .slice a 0 0) ∨
 ∃ blk off cap cs,v = .slice (some ⟨blk,off,none⟩) l.length cap∧l.length≤cap∧Elems R l cs∧Fz fz blk off cs
def CR (fz:Nat→Nat→Option Value):(T:Ty)→T.den→List Value→Prop
 | .int k,x,cs=>cs = [.int k x]
 | .bool,x,cs=>cs = [.bool x]
 | .str,x,cs=>cs = [.string x]
 | .sl e,l,cs=>∃ v,cs = [v]∧SlR (CR fz e) fz l v
 | .unit,_,cs=>cs = []
 | .pair a b,x,cs=>∃ c1 c2,cs = c1++c2∧CR fz a x.1 c1∧CR fz b x.2 c2
 | .arr n e,l,cs=>l.length = n∧Elems (CR fz e) l cs
def zam:List Stp→Nat
 | []=>0
 | s :: p=>s.i.toNat * s.sz + s.o + zam p
def PsR (fz:Nat→Nat→Option Value):List AV→List Value→Prop
 | [],cs=>cs = []
 | .val T x :: gs,cs=>∃ c1 c2,cs = c1++c2∧CR fz T x c1∧PsR fz gs c2
 | _ :: _,_=>False
def CapR (g:Gh) (v:AV) (c:Value):Prop :=
 match v with
 | .ptr b 0 []=>∃ gb blk,g.bx b = some gb∧gb.isRow = false∧gb.blk = some blk∧c = .pointer (some ⟨blk,0,none⟩)
 | .mp b=>∃ gb r,g.bx b = some gb∧gb.isRow = false∧gb.blk = some r∧c = .map (some r)
 | .agg []=>c = .agg #[]
 | _=>False
def CapsR (g:Gh):List AV→List Value→Prop
 | [],[]=>True
 | a :: l,v :: vs=>CapR g a v∧CapsR g l vs
 | _,_=>False
def WinR (gb:Gb) (w:Win) (v:Value):Prop :=
 match w,gb.blk with
 | .whole,none=>v = .slice gb.ad 0 0∧gb.len = 0
 | .whole,some blk=>v = .slice (some ⟨blk,gb.off,none⟩) gb.len gb.cap
 | .part off n full,some blk=>off + n≤gb.len∧∃ a c,v = .slice (some a) n c∧a.spot = none∧n≤c∧(full = true→c = n)∧off + c≤gb.cap∧(c = 0 ∨ a = ⟨blk,gb.off + off * gb.sz,none⟩)
 | .part off n _,none=>off = 0∧n = 0∧gb.len = 0∧v = .slice gb.ad 0 0
def GR (g:Gh) (v:AV) (cs:List Value):Prop :=
 match v with
 | .val T x=>CR g.fz T x cs
 | .full T l=>(l = []∧∃ a,cs = [.slice a 0 0]) ∨ ∃ blk off cs',cs = [.slice (some ⟨blk,off,none⟩) l.length l.length]∧Elems (CR g.fz T) l cs'∧Fz g.fz blk off cs'
 | .nn T l=>(l = []∧∃ a,cs = [.slice (some a) 0 0]) ∨ ∃ blk off cap cs',cs = [.slice (some ⟨blk,off,none⟩) l.length cap]∧l.length≤cap∧Elems (CR g.fz T) l cs'∧Fz g.fz blk off cs'
 | .nils=>cs = [.slice none 0 0]
 | .nilp=>cs = [.pointer none]
 | .nilf=>cs = [.nilFunc]
 | .nili=>cs = [.nilIface]
 | .nilm=>cs = [.map none]
 | .ptr b off p=>∃ gb blk,g.bx b = some gb∧gb.isRow = false∧gb.blk = some blk∧(∀ s∈p,0≤s.i∧s.i < s.n)∧cs = [.pointer (some ⟨blk,off + zam p,none⟩)]
 | .rptr b i o=>∃ gb blk,g.bx b = some gb∧gb.isRow = true∧gb.blk = some blk∧0≤i∧i < gb.len∧cs = [.pointer (some ⟨blk,gb.off + i.toNat * gb.sz + o,none⟩)]
 | .eptr gs=>∃ blk off cs',cs = [.pointer (some ⟨blk,off,none⟩)]∧PsR g.fz gs cs'∧Fz g.fz blk off cs'
 | .row b w=>∃ gb v,g.bx b = some gb∧gb.isRow = true∧cs = [v]∧WinR gb w v
 | .vsl b off n lo len=>∃ gb blk cap,g.bx b = some gb∧gb.isRow = false∧gb.blk = some blk∧lo + len≤n∧len≤cap∧∃ a,cs = [.slice (some a) len cap]∧a.spot = none∧(cap = 0 ∨ a = ⟨blk,off + lo,none⟩)
 | .fn f caps=>∃ vs,cs = [.func (.func f) #[] vs]∧CapsR g caps vs.toList
 | .mfn f caps=>∃ vs,cs = [.func (.func f) vs #[]]∧CapsR g caps vs.toList
 | .yld b=>∃ gb l,g.bx b = some gb∧gb.isRow = false∧gb.blk = some l∧cs = [.func (.yield l) #[] #[]]
 | .iface t v=>∃ c,cs = [.iface t c]∧match v with
  | .val (.int k) x=>c = .int k x
  | .val .str x=>c = .string x
  | .agg []=>c = .agg #[]
  | _=>False
 | .mp b=>∃ gb r,g.bx b = some gb∧gb.isRow = false∧gb.blk = some r∧cs = [.map (some r)]
 | .junk=>∃ v,cs = [v]∧v.oneCell' = true
 | .agg _ | .tup _=>False
def GsR (g:Gh):List AV→List Value→Prop
 | [],cs=>cs = []
 | v :: gs,cs=>∃ c1 c2,cs = c1++c2∧GR g v c1∧GsR g gs c2
def VR1 (g:Gh) (v:AV) (c:Value):Prop :=
 match v with
 | .agg gs=>∃ arr,c = .agg arr∧GsR g gs arr.toList
 | .val (.arr n T) l=>∃ arr,c = .agg arr∧CR g.fz (.arr n T) l arr.toList
 | .val (.pair _ _) _ | .val .unit _=>False
 | .junk=>True
 | v=>GR g v [c]
def TsR (g:Gh):List AV→List Value→Prop
 | [],[]=>True
 | a :: l,v :: vs=>VR1 g a v∧TsR g l vs
 | _,_=>False
def VR (g:Gh) (v:AV) (c:Value):Prop :=
 match v with
 | .tup vs=>∃ arr,c = .tuple arr∧TsR g vs arr.toList
 | v=>VR1 g v c
def BlkIs (w:World) (blk:Nat) (cells:List Value):Prop :=
 ∃ elem lo hi,w.heap[blk]? = some (.cells cells.toArray elem (lo,hi))∧∀ o,o < cells.length→¬ (lo≤o∧o < hi)
def TV (fz:Nat→Nat→Option Value) (T:Ty) (x:T.den) (c:Value):Prop :=
 ∃ arr:Array Value,CR fz T x arr.toList∧c = bif T.isAgg then .agg arr else arr.getD 0 undef
def EntR (fz:Nat→Nat→Option Value) (K V:Ty):List (K.den × V.den)→List MapEntry→Prop
 | [],[]=>True
 | x :: l,e :: es=>TV fz K x.1 e.key∧TV fz V x.2 e.val∧EntR fz K V l es
 | _,_=>False
def zbQ (es:Array MapEntry) (ck:Nat):Value:=.tuple (es.toList.map (fun e=>Value.tuple #[e.key,e.val,.int .i64 (e.born:Int)])++[Value.int .i64 (ck:Int)]).toArray
theorem zfA {es es':Array MapEntry} {ck ck':Nat} (h:zbQ es ck = zbQ es' ck'):es = es'∧ck = ck':=by
 unfold zbQ at h
 injection h with h
 have h:=congrArg Array.toList h
 simp only at h
 obtain ⟨h1,h2⟩:=List.append_inj' h rfl
 constructor
 ·have key:∀ l m:List MapEntry,l.map (fun e=>Value.tuple #[e.key,e.val,.int .i64 (e.born:Int)]) = m.map (fun e=>Value.tuple #[e.key,e.val,.int .i64 (e.born:Int)])→l = m:=by
   intro l
   induction l with
   | nil=>intro m hm; cases m with
    | nil=>rfl
    | cons _ _=>cases hm
   | cons x l ih=>intro m hm; cases m with
    | nil=>cases hm
    | cons y m =>
     simp only [List.map_cons,sC] at hm
     obtain ⟨e1,e2⟩:=hm
     obtain ⟨a,b,c⟩:=x
     obtain ⟨a',b',c'⟩:=y
     simp at e1
     obtain ⟨rfl,rfl,e3⟩:=e1
     have:c = c':=by omega
     subst this
     rw [ih _ e2]
  apply Array.toList_inj.1
  exact key _ _ h1
 ·simp at h2
  omega
def BornR (es:List MapEntry) (ck:Nat):Prop:=(∀ x∈es,x.born < ck)∧(es.map (·.born)).Nodup
def isTup:Value→Bool
 | .tuple _=>true
 | _=>false
def Keeps (w:World) (b o:Nat) (v:Value):Prop:=(isTup v = false→w.cell? ⟨b,o,none⟩ = some v)∧(isTup v = true→∃ es ck,v = zbQ es ck∧w.heap[b]? = some (.map es ck))
def BoxR (g:Gh) (b:Box) (gb:Gb) (w:World):Prop :=
 match b with
 | .map K V l=>gb.isRow = false∧gb.own = true∧∃ r es clock,gb.blk = some r∧w.heap[r]? = some (.map es clock)∧EntR g.fz K V l es.toList∧(BornR es.toList clock∧∀ o,g.fz r o = none)
 | .fmap K V l=>gb.isRow = false∧gb.own = true∧∃ r es clock,gb.blk = some r∧w.heap[r]? = some (.map es clock)∧EntR g.fz K V l es.toList∧(BornR es.toList clock∧g.fz r 0 = some (zbQ es clock))
 | .iter K V l cur=>gb.isRow = false∧gb.own = true∧∃ r m es clock since seen last,gb.blk = some r∧w.heap[r]? = some (.mapIter (some m) since seen last)∧g.fz m 0 = some (zbQ es clock) ∧
   ((∀ x∈es.toList,x.born < since)∧since≤last∧since≤clock∧(es.toList.map (·.born)).Nodup∧∀ c,cur = some c→last = clock∧∃ e∈es.toList,∃ sn:Array Nat,seen = sn.push e.born∧TV g.fz K c.1 e.key∧TV g.fz V c.2 e.val)∧EntR g.fz K V l (leftOf es seen).toList∧∀ o,g.fz r o = none
 | .loop busy f id env=>gb.isRow = false∧gb.own = true∧∃ l tm D fn cd,gb.blk = some l∧Codes.cd f id = some cd ∧
   w.heap[l]? = some (.loop { state:=if busy = true then .busy else .ready,pending:=none,fn:=fn,tmps:=tm,params:=cd.ps.toArray,assign:=cd.assign,body:=cd.body,defers:=D }) ∧
   (∀ n v,find env n = some v→VR g v (tm.getD n undef))∧(cd.n≤tm.size∧∀ o,g.fz l o = none)
 | .dead=>gb.isRow = false∧gb.own = true∧∃ l o,gb.blk = some l∧w.heap[l]? = some o∧∀ o,g.fz l o = none
 | .var gs=>gb.isRow = false∧gb.own = true∧∃ blk cells,gb.blk = some blk∧BlkIs w blk cells∧GsR g gs cells∧∀ o,g.fz blk o = none
 | .row T fz l=>gb.isRow = true∧gb.sz = T.size∧gb.len = l.length∧gb.len≤gb.cap ∧
  match gb.blk,gb.own with
  | none,_=>l = []∧gb.own = false∧gb.cap = 0
  | some blk,false=>(fz = true ∨ l = [])∧gb.cap = gb.len∧∃ cs,Elems (CR g.fz T) l cs∧Fz g.fz blk gb.off cs
  | some blk,true=>∃ cells cs,BlkIs w blk cells∧gb.off + gb.cap * T.size≤cells.length∧Elems (CR g.fz T) l cs ∧
    (∀ j v,cs[j]? = some v→cells[gb.off + j]? = some v) ∧
    (fz = false→∀ o,g.fz blk o = none)∧(fz = true→Fz g.fz blk gb.off cs∧∀ o,gb.off + cs.length≤o→g.fz blk o = none)
def owned (g:Gh) (blk:Nat):Prop:=∃ k gb,g.bx k = some gb∧gb.blk = some blk∧gb.own = true
structure BxR (g:Gh) (bxs:Bxs) (w:World):Prop where
 box:∀ k b,find bxs k = some b→∃ gb,g.bx k = some gb∧BoxR g b gb w
 dom:∀ k gb,g.bx k = some gb→(find bxs k).isSome = true
 sep:∀ k j a b blk,k ≠ j→g.bx k = some a→g.bx j = some b→a.blk = some blk→a.own = true→b.blk = some blk→b.own = true→False
structure BxW (g:Gh) (bxs:Bxs) (w:World):Prop where
 box:∀ k b,find bxs k = some b→∃ gb,g.bx k = some gb∧BoxR g b gb w
theorem BxR.w {g:Gh} {bxs:Bxs} {w:World} (h:BxR g bxs w):BxW g bxs w:=⟨h.box⟩
def FzOK (g:Gh) (w:World):Prop:=∀ b o v,g.fz b o = some v→Keeps w b o v
def EnvR (g:Gh) (env:Env) (tm:Array Value):Prop:=∀ n v,find env n = some v→VR g v (tm.getD n undef)
def StkR (g:Gh):List Env→List (Array Value)→Prop
 | [],[]=>True
 | e :: l,t :: ts=>EnvR g e t∧StkR g l ts
 | _,_=>False
structure StR (g:Gh) (s:St) (tm:Array Value) (tms:List (Array Value)) (w:World):Prop where
 env:EnvR g s.env tm
 stk:StkR g s.stk tms
 bxs:BxR g s.bxs w
 fz:FzOK g w
structure Tr (g:Gh) (w:World) (g':Gh) (w':World):Prop where
 os:w'.os = w.os
 tape:w'.tape = w.tape
 output:w'.output = w.output
 size:w.heap.size≤w'.heap.size
 fz:∀ b o v,g.fz b o = some v→g'.fz b o = some v
 fzNew:∀ b o,g'.fz b o ≠ none→g.fz b o ≠ none ∨ w.heap.size≤b ∨ owned g b
 own:∀ b,owned g' b→owned g b ∨ w.heap.size≤b
 block:∀ b,b < w.heap.size→¬ owned g b→w'.heap[b]? = w.heap[b]?
theorem Tr.refl (g:Gh) (w:World):Tr g w g w :=
 ⟨rfl,rfl,rfl,Nat.le_refl _,fun _ _ _ h=>h,fun _ _ h=>.inl h,fun _ h=>.inl h,fun _ _ _=>rfl⟩
theorem Tr.trans {g g' g'':Gh} {w w' w'':World} (h:Tr g w g' w') (k:Tr g' w' g'' w''):Tr g w g'' w'' where
 os:=k.os.trans h.os
 tape:=k.tape.trans h.tape
 output:=k.output.trans h.output
 size:=Nat.le_trans h.size k.size
 fz:=fun b o v e=>k.fz b o v (h.fz b o v e)
 fzNew:=fun b o e=>by
  rcases k.fzNew b o e with h1 | h1 | h1
  ·exact h.fzNew b o h1
  ·exact .inr (.inl (Nat.le_trans h.size h1))
  ·rcases h.own b h1 with h2 | h2
   ·exact .inr (.inr h2)
   ·exact .inr (.inl h2)
 own:=fun b e=>by
  rcases k.own b e with h1 | h1
  ·exact h.own b h1
  ·exact .inr (Nat.le_trans h.size h1)
 block:=fun b hb ho=>by
  have h1:¬ owned g' b:=fun h2=>by
   rcases h.own b h2 with h3 | h3
   ·exact ho h3
   ·omega
  exact (k.block b (Nat.lt_of_lt_of_le hb h.size) h1).trans (h.block b hb ho)
theorem Elems.length {α:Type} {R:α→List Value→Prop} {n:Nat} (hR:∀ x cs,R x cs→cs.length = n):∀ {l:List α} {cs:List Value},Elems R l cs→cs.length = l.length * n
 | [],cs,h=>by simp [Elems] at h; simp [h]
 | x :: l,cs,h=>by
  obtain ⟨c1,c2,rfl,h1,h2⟩:=h
  rw [List.length_append,hR _ _ h1,h2.length hR,List.length_cons,Nat.succ_mul,Nat.add_comm]
theorem Elems.mono {α:Type} {R R':α→List Value→Prop} (hR:∀ x cs,R x cs→R' x cs):∀ {l:List α} {cs:List Value},Elems R l cs→Elems R' l cs
 | [],_,h=>h
 | _ :: _,_,⟨c1,c2,e,h1,h2⟩=>⟨c1,c2,e,hR _ _ h1,h2.mono hR⟩
theorem CR.length {fz:Nat→Nat→Option Value}:∀ {T:Ty} {x:T.den} {cs:List Value},CR fz T x cs→cs.length = T.size
 | .int _,_,_,h=>by simp only [CR] at h; simp [h,Ty.size]
 | .bool,_,_,h=>by simp only [CR] at h; simp [h,Ty.size]
 | .str,_,_,h=>by simp only [CR] at h; simp [h,Ty.size]
 | .sl _,_,_,h=>by obtain ⟨v,rfl,_⟩:=h; simp [Ty.size]
 | .unit,_,_,h=>by simp only [CR] at h; simp [h,Ty.size]
 | .pair a b,x,cs,h=>by
  obtain ⟨c1,c2,rfl,h1,h2⟩:=h
  rw [List.length_append,h1.length,h2.length,Ty.size]
 | .arr n e,l,cs,h=>by
  obtain ⟨h1,h2⟩:=h
  rw [h2.length (n:=e.size) (fun x cs h=>h.length),h1,Ty.size]
theorem Fz.mono {fz fz':Nat→Nat→Option Value} (hf:∀ b o v,fz b o = some v→fz' b o = some v) {blk off:Nat} {cs:List Value} (h:Fz fz blk off cs):Fz fz' blk off cs :=
 fun j v e=>hf _ _ _ (h j v e)
theorem CR.mono {fz fz':Nat→Nat→Option Value} (hf:∀ b o v,fz b o = some v→fz' b o = some v):∀ {T:Ty} {x:T.den} {cs:List Value},CR fz T x cs→CR fz' T x cs
 | .int _,_,_,h=>h
 | .bool,_,_,h=>h
 | .str,_,_,h=>h
 | .sl e,_,_,h=>by
  obtain ⟨v,rfl,h⟩:=h
  refine ⟨v,rfl,?_⟩
  rcases h with h | ⟨blk,off,cap,cs,h1,h2,h3,h4⟩
  ·exact .inl h
  ·exact .inr ⟨blk,off,cap,cs,h1,h2,h3.mono (fun x cs h=>CR.mono hf h),h4.mono hf⟩
 | .unit,_,_,h=>h
 | .pair a b,x,cs,h=>by
  obtain ⟨c1,c2,rfl,h1,h2⟩:=h
  exact ⟨c1,c2,rfl,CR.mono hf h1,CR.mono hf h2⟩
 | .arr n e,l,cs,h=>⟨h.1,h.2.mono (fun x cs h=>CR.mono hf h)⟩
theorem Elems.get {α:Type} {R:α→List Value→Prop} {n:Nat} (hR:∀ x cs,R x cs→cs.length = n):∀ {l:List α} {cs:List Value},Elems R l cs→∀ i (hi:i < l.length),
  ∃ a c b,cs = a++(c++b)∧a.length = i * n∧R l[i] c∧Elems R (l.take i) a∧Elems R (l.drop (i + 1)) b
 | [],_,_,i,hi=>by simp at hi
 | x :: l,cs,⟨c1,c2,e,h1,h2⟩,0,_=>⟨[],c1,c2,by simp [e],by simp,h1,rfl,by simpa using h2⟩
 | x :: l,cs,⟨c1,c2,e,h1,h2⟩,i + 1,hi=>by
  obtain ⟨a,c,b,e2,ha,hc,h3,h4⟩:=h2.get hR i (by simpa using hi)
  refine ⟨c1++a,c,b,by simp [e,e2],?_,by simpa using hc,⟨c1,a,rfl,h1,h3⟩,by simpa using h4⟩
  rw [List.length_append,hR _ _ h1,ha,Nat.succ_mul,Nat.add_comm]
theorem Elems.append {α:Type} {R:α→List Value→Prop}:∀ {l m:List α} {a b:List Value},Elems R l a→Elems R m b→Elems R (l++m) (a++b)
 | [],m,a,b,h,k=>by have:a = []:=h; subst this; exact k
 | x :: l,m,a,b,⟨c1,c2,e,h1,h2⟩,k=>⟨c1,c2++b,by simp [e],h1,h2.append k⟩
theorem Elems.split {α:Type} {R:α→List Value→Prop} {n:Nat} (hR:∀ x cs,R x cs→cs.length = n):∀ {l:List α} {cs:List Value},Elems R l cs→∀ i,i≤l.length →
  Elems R (l.take i) (cs.take (i * n))∧Elems R (l.drop i) (cs.drop (i * n))
 | [],cs,h,i,hi=>by
  have:cs = []:=h
  subst this
  have:i = 0:=by simpa using hi
  subst this
  simp [Elems]
 | x :: l,cs,h,0,_=>by simp only [List.take_zero,List.drop_zero,Nat.zero_mul]; exact ⟨rfl,h⟩
 | x :: l,cs,⟨c1,c2,e,h1,h2⟩,i + 1,hi=>by
  obtain ⟨h3,h4⟩:=h2.split hR i (by simpa using hi)
  have hc:=hR _ _ h1
  subst e
  have e1:(i + 1) * n = c1.length + i * n:=by rw [Nat.succ_mul,hc,Nat.add_comm]
  constructor
  ·show Elems R (x :: l.take i) ((c1++c2).take ((i + 1) * n))
   have e2:(c1++c2).take ((i + 1) * n) = c1++c2.take (i * n):=by rw [e1,List.take_append,List.take_of_length_le (by omega),Nat.add_sub_cancel_left]
   rw [e2]
   exact ⟨c1,_,rfl,h1,h3⟩
  ·show Elems R (l.drop i) ((c1++c2).drop ((i + 1) * n))
   have e2:(c1++c2).drop ((i + 1) * n) = c2.drop (i * n):=by rw [e1,List.drop_append,List.drop_of_length_le (by omega),Nat.add_sub_cancel_left,List.nil_append]
   rw [e2]
   exact h4
theorem Elems.set {α:Type} {R:α→List Value→Prop} {n:Nat} (hR:∀ x cs,R x cs→cs.length = n) {l:List α} {cs:List Value} (h:Elems R l cs) (i:Nat) (hi:i < l.length) {y:α} {c:List Value} (hy:R y c) :
  ∃ a b c0,cs = a++(c0++b)∧a.length = i * n∧R l[i] c0∧Elems R (l.set i y) (a++(c++b)):=by
 obtain ⟨a,c0,b,e,ha,h0,h1,h2⟩:=h.get hR i hi
 refine ⟨a,b,c0,e,ha,h0,?_⟩
 rw [List.set_eq_take_append_cons_drop,if_pos hi]
 exact h1.append ⟨c,b,rfl,hy,h2⟩
theorem PsR.append {fz:Nat→Nat→Option Value}:∀ {l m:List AV} {a b:List Value},PsR fz l a→PsR fz m b→PsR fz (l++m) (a++b)
 | [],m,a,b,h,k=>by have:a = []:=h; subst this; exact k
 | .val T x :: l,m,a,b,⟨c1,c2,e,h1,h2⟩,k=>⟨c1,c2++b,by simp [e],h1,h2.append k⟩
theorem zhY {fz:Nat→Nat→Option Value}:∀ {T:Ty} {x:T.den} {cs:List Value},CR fz T x cs→PsR fz (T.gs x) cs
 | .int _,_,cs,h=>⟨cs,[],by simp,h,rfl⟩
 | .bool,_,cs,h=>⟨cs,[],by simp,h,rfl⟩
 | .str,_,cs,h=>⟨cs,[],by simp,h,rfl⟩
 | .sl _,_,cs,h=>⟨cs,[],by simp,h,rfl⟩
 | .unit,_,_,h=>h
 | .pair a b,x,cs,h=>by
  obtain ⟨c1,c2,rfl,h1,h2⟩:=h
  exact (zhY h1).append (zhY h2)
 | .arr _ _,_,cs,h=>⟨cs,[],by simp,h,rfl⟩
theorem PsR.gsR {g:Gh}:∀ {l:List AV} {cs:List Value},PsR g.fz l cs→GsR g l cs
 | [],_,h=>h
 | .val _ _ :: _,_,⟨c1,c2,e,h1,h2⟩=>⟨c1,c2,e,h1,h2.gsR⟩
theorem ze0 {g:Gh} {T:Ty} {x:T.den} {cs:List Value} (h:CR g.fz T x cs):GsR g (T.gs x) cs:=(zhY h).gsR
theorem GsR.append {g:Gh}:∀ {l m:List AV} {a b:List Value},GsR g l a→GsR g m b→GsR g (l++m) (a++b)
 | [],m,a,b,h,k=>by have:a = []:=h; subst this; exact k
 | _ :: l,m,a,b,⟨c1,c2,e,h1,h2⟩,k=>⟨c1,c2++b,by simp [e],h1,h2.append k⟩
theorem GR.length {g:Gh} {v:AV} {cs:List Value} (h:GR g v cs):cs.length = v.size:=by
 cases v <;> simp only [GR] at h <;> simp only [AV.size]
 case val T x=>exact h.length
 case full=>rcases h with ⟨_,_,rfl⟩ | ⟨_,_,_,rfl,_⟩ <;> rfl
 case nn=>rcases h with ⟨_,_,rfl⟩ | ⟨_,_,_,_,rfl,_⟩ <;> rfl
 case ptr=>obtain ⟨_,_,_,_,_,_,rfl⟩:=h; rfl
 case rptr=>obtain ⟨_,_,_,_,_,_,_,rfl⟩:=h; rfl
 case eptr=>obtain ⟨_,_,_,rfl,_⟩:=h; rfl
 case row=>obtain ⟨_,_,_,_,rfl,_⟩:=h; rfl
 case vsl=>obtain ⟨_,_,_,_,_,_,_,_,_,rfl,_⟩:=h; rfl
 case fn=>obtain ⟨_,rfl,_⟩:=h; rfl
 case mfn=>obtain ⟨_,rfl,_⟩:=h; rfl
 case yld=>obtain ⟨_,_,_,_,_,rfl⟩:=h; rfl
 case iface=>obtain ⟨_,rfl,_⟩:=h; rfl
 case mp=>obtain ⟨_,_,_,_,_,rfl⟩:=h; rfl
 case junk=>obtain ⟨_,rfl,_⟩:=h; rfl
 all_goals simp [h]
theorem GsR.length {g:Gh}:∀ {gs:List AV} {cs:List Value},GsR g gs cs→cs.length = zd5 gs
 | [],_,h=>by have:_ = []:=h; simp [this,zd5]
 | v :: gs,_,⟨c1,c2,e,h1,h2⟩=>by rw [e,List.length_append,h1.length,h2.length,zd5]
theorem PsR.length {fz:Nat→Nat→Option Value}:∀ {gs:List AV} {cs:List Value},PsR fz gs cs→cs.length = zd5 gs :=
 fun h=>(PsR.gsR (g:=⟨fz,fun _=>none⟩) h).length
theorem PsR.mono {fz fz':Nat→Nat→Option Value} (hf:∀ b o v,fz b o = some v→fz' b o = some v):∀ {l:List AV} {cs:List Value},PsR fz l cs→PsR fz' l cs
 | [],_,h=>h
 | .val _ _ :: _,_,⟨c1,c2,e,h1,h2⟩=>⟨c1,c2,e,h1.mono hf,h2.mono hf⟩
theorem zec {a b:Nat} (h:¬ a≤b):Nat.ble a b = false:=by
 cases hb:Nat.ble a b
 ·rfl
 ·exact absurd (Nat.le_of_ble_eq_true hb) h
theorem za8 {g:Gh}:∀ {gs:List AV} {n:Nat} {gs':List AV} {cs:List Value},zbB gs n = some gs'→GsR g gs cs→n≤cs.length∧GsR g gs' (cs.drop n)
 | gs,0,gs',cs,h,k=>by
  simp only [zbB,sI] at h
  subst h
  exact ⟨Nat.zero_le _,by simpa using k⟩
 | [],n + 1,gs',cs,h,k=>by simp [zbB] at h
 | v :: gs,n + 1,gs',cs,h,⟨c1,c2,e,h1,h2⟩=>by
  simp only [zbB] at h
  by_cases hle:v.size≤n + 1
  ·simp only [Nat.ble_eq_true_of_le hle,cond_true] at h
   obtain ⟨h3,h4⟩:=za8 h h2
   have hl:=h1.length
   subst e
   refine ⟨by rw [List.length_append]; omega,?_⟩
   rw [List.drop_append,List.drop_of_length_le (by omega),List.nil_append,hl]
   exact h4
  ·have hb:Nat.ble v.size (n + 1) = false:=zec hle
   simp [hb] at h
theorem zcG {g:Gh}:∀ {gs:List AV} {n:Nat} {gs':List AV} {cs:List Value},zfr gs n = some gs'→GsR g gs cs→n≤cs.length∧GsR g gs' (cs.take n)
 | gs,0,gs',cs,h,k=>by
  simp only [zfr,sI] at h
  subst h
  exact ⟨Nat.zero_le _,by simp [GsR]⟩
 | [],n + 1,gs',cs,h,k=>by simp [zfr] at h
 | v :: gs,n + 1,gs',cs,h,⟨c1,c2,e,h1,h2⟩=>by
  simp only [zfr] at h
  by_cases hle:v.size≤n + 1
  ·simp only [Nat.ble_eq_true_of_le hle,cond_true,Option.map_eq_some_iff] at h
   obtain ⟨r,hr,rfl⟩:=h
   obtain ⟨h3,h4⟩:=zcG hr h2
   have hl:=h1.length
   subst e
   refine ⟨by rw [List.length_append]; omega,?_⟩
   rw [List.take_append,List.take_of_length_le (by omega),hl]
   exact ⟨c1,_,rfl,h1,h4⟩
  ·have hb:Nat.ble v.size (n + 1) = false:=zec hle
   simp [hb] at h
theorem zb5 {g:Gh} {new:List AV} {ns:List Value} (hn:GsR g new ns):∀ {gs:List AV} {n:Nat} {gs':List AV} {cs:List Value},putGs gs n new = some gs'→GsR g gs cs →
  n + ns.length≤cs.length∧GsR g gs' (cs.take n++ns++cs.drop (n + ns.length))
 | gs,0,gs',cs,h,k=>by
  have h':(zbB gs (zd5 new)).map (new++·) = some gs':=by cases gs <;> simpa [putGs] using h
  rw [Option.map_eq_some_iff] at h'
  obtain ⟨r,hr,rfl⟩:=h'
  obtain ⟨h3,h4⟩:=za8 hr k
  rw [← hn.length] at h3 h4
  refine ⟨by omega,?_⟩
  simp only [List.take_zero,List.nil_append,Nat.zero_add]
  exact hn.append h4
 | [],n + 1,gs',cs,h,k=>by simp [putGs] at h
 | v :: gs,n + 1,gs',cs,h,⟨c1,c2,e,h1,h2⟩=>by
  simp only [putGs] at h
  by_cases hle:v.size≤n + 1
  ·simp only [Nat.ble_eq_true_of_le hle,cond_true,Option.map_eq_some_iff] at h
   obtain ⟨r,hr,rfl⟩:=h
   obtain ⟨h3,h4⟩:=zb5 hn hr h2
   have hl:=h1.length
   subst e
   refine ⟨by rw [List.length_append]; omega,?_⟩
   rw [List.take_append,List.take_of_length_le (by omega),List.drop_append,List.drop_of_length_le (by omega),List.nil_append,hl,
    show n + 1 + ns.length - v.size = n + 1 - v.size + ns.length by omega,List.append_assoc,List.append_assoc]
   exact ⟨c1,_,rfl,h1,by simpa [List.append_assoc] using h4⟩
  ·have hb:Nat.ble v.size (n + 1) = false:=zec hle
   simp [hb] at h
theorem Elems.all {α:Type} {R:α→List Value→Prop} {p:Value→Prop} (hR:∀ x cs,R x cs→∀ c∈cs,p c):∀ {l:List α} {cs:List Value},Elems R l cs→∀ c∈cs,p c
 | [],_,h=>by have:_ = []:=h; simp [this]
 | x :: l,_,⟨c1,c2,e,h1,h2⟩=>by
  intro c hc
  rw [e,List.mem_append] at hc
  rcases hc with hc | hc
  ·exact hR _ _ h1 c hc
  ·exact h2.all hR c hc
theorem CR.one {fz:Nat→Nat→Option Value}:∀ {T:Ty} {x:T.den} {cs:List Value},CR fz T x cs→∀ c∈cs,c.oneCell' = true
 | .int _,_,_,h=>by simp only [CR] at h; simp [h,Value.oneCell']
 | .bool,_,_,h=>by simp only [CR] at h; simp [h,Value.oneCell']
 | .str,_,_,h=>by simp only [CR] at h; simp [h,Value.oneCell']
 | .sl _,_,_,h=>by
  obtain ⟨v,rfl,h⟩:=h
  rcases h with ⟨_,_,rfl⟩ | ⟨_,_,_,_,rfl,_⟩ <;> simp [Value.oneCell']
 | .unit,_,_,h=>by simp only [CR] at h; simp [h]
 | .pair a b,x,cs,h=>by
  obtain ⟨c1,c2,rfl,h1,h2⟩:=h
  intro c hc
  rw [List.mem_append] at hc
  rcases hc with hc | hc
  ·exact h1.one c hc
  ·exact h2.one c hc
 | .arr n e,l,cs,h=>h.2.all (fun x cs h=>h.one)
theorem WinR.one {gb:Gb} {w:Win} {v:Value} (h:WinR gb w v):v.oneCell' = true:=by
 unfold WinR at h
 split at h
 ·rw [h.1]; rfl
 ·rw [h]; rfl
 ·obtain ⟨_,a,c,rfl,_⟩:=h; rfl
 ·rw [h.2.2.2]; rfl
theorem GR.one {g:Gh} {v:AV} {cs:List Value} (h:GR g v cs):∀ c∈cs,c.oneCell' = true:=by
 cases v <;> simp only [GR] at h
 case val T x=>exact h.one
 case full=>rcases h with ⟨_,_,rfl⟩ | ⟨_,_,_,rfl,_⟩ <;> simp [Value.oneCell']
 case nn=>rcases h with ⟨_,_,rfl⟩ | ⟨_,_,_,_,rfl,_⟩ <;> simp [Value.oneCell']
 case ptr=>obtain ⟨_,_,_,_,_,_,rfl⟩:=h; simp [Value.oneCell']
 case rptr=>obtain ⟨_,_,_,_,_,_,_,rfl⟩:=h; simp [Value.oneCell']
 case eptr=>obtain ⟨_,_,_,rfl,_⟩:=h; simp [Value.oneCell']
 case row=>obtain ⟨_,_,_,_,rfl,h⟩:=h; simp [h.one]
 case vsl=>obtain ⟨_,_,_,_,_,_,_,_,_,rfl,_⟩:=h; simp [Value.oneCell']
 case fn=>obtain ⟨_,rfl,_⟩:=h; simp [Value.oneCell']
 case mfn=>obtain ⟨_,rfl,_⟩:=h; simp [Value.oneCell']
 case yld=>obtain ⟨_,_,_,_,_,rfl⟩:=h; simp [Value.oneCell']
 case iface=>obtain ⟨_,rfl,_⟩:=h; simp [Value.oneCell']
 case mp=>obtain ⟨_,_,_,_,_,rfl⟩:=h; simp [Value.oneCell']
 case junk=>obtain ⟨_,rfl,h⟩:=h; simp [h]
 all_goals simp [h,Value.oneCell']
theorem GsR.one {g:Gh}:∀ {gs:List AV} {cs:List Value},GsR g gs cs→∀ c∈cs,c.oneCell' = true
 | [],_,h=>by have:_ = []:=h; simp [this]
 | v :: gs,_,⟨c1,c2,e,h1,h2⟩=>by
  intro c hc
  rw [e,List.mem_append] at hc
  rcases hc with hc | hc
  ·exact h1.one c hc
  ·exact h2.one c hc
theorem cells_one {c:Value} (h:c.oneCell' = true):c.cells = #[c]:=by
 cases c <;> first | rfl | (simp [Value.oneCell'] at h)
theorem zbR {g:Gh} {v:AV} {c:Value} (hv:v.single = true):VR1 g v c ↔ GR g v [c]:=by
 cases v <;> simp only [AV.single,sF] at hv <;> try exact Iff.rfl
 case val T x=>cases T <;> simp only [sF] at hv <;> exact Iff.rfl
theorem VR1.single_gs {g:Gh} {v:AV} {c:Value} (h:VR1 g v c) (hv:v.single = true):GR g v [c]∧c.cells = #[c]:=by
 have h':=(zbR hv).1 h
 exact ⟨h',cells_one (h'.one c (by simp))⟩
theorem VR1.gs {g:Gh} {v:AV} {c:Value} (h:VR1 g v c) (hv:v.okGs = true):GsR g v.gs c.cells.toList:=by
 by_cases hs:v.single = true
 ·obtain ⟨h1,h2⟩:=h.single_gs hs
  have e:v.gs = [v]:=by cases v <;> first | rfl | (simp [AV.single] at hs)
  rw [e,h2]
  exact ⟨[c],[],rfl,h1,rfl⟩
 ·cases v <;> simp only [AV.okGs,sF,AV.single,not_true] at hv hs
  case val T x =>
   cases T <;> simp only [not_true] at hs
   case arr n T =>
    obtain ⟨arr,rfl,h⟩:=h
    exact ⟨arr.toList,[],by simp [Value.cells],h,rfl⟩
   all_goals exact h.elim
  case agg gs =>
   obtain ⟨arr,rfl,h⟩:=h
   exact h
theorem VR.vr1 {g:Gh} {v:AV} {c:Value} (hv:v.okGs = true) (h:VR g v c):VR1 g v c:=by
 cases v <;> first | exact h | (simp [AV.okGs] at hv)
theorem VR.gs {g:Gh} {v:AV} {c:Value} (h:VR g v c) (hv:v.okGs = true):GsR g v.gs c.cells.toList:=(VR.vr1 hv h).gs hv
theorem VR1.vr {g:Gh} {v:AV} {c:Value} (hv:∀ vs,v ≠ .tup vs) (h:VR1 g v c):VR g v c:=by
 cases v <;> first | exact h | exact (hv _ rfl).elim
theorem vr_av {g:Gh} {T:Ty} {x:T.den} {arr:Array Value} (h:CR g.fz T x arr.toList) :
  VR1 g (T.av x) (match T with | .pair _ _ | .unit | .arr _ _=>.agg arr | _=>arr.getD 0 undef):=by
 cases T
 case int k=>have h':arr.toList = [.int k x]:=h; obtain ⟨l⟩:=arr; simp only at h'; subst h'; exact rfl
 case bool=>have h':arr.toList = [.bool x]:=h; obtain ⟨l⟩:=arr; simp only at h'; subst h'; exact rfl
 case str=>have h':arr.toList = [.string x]:=h; obtain ⟨l⟩:=arr; simp only at h'; subst h'; exact rfl
 case sl e=>obtain ⟨v,h1,h2⟩:=h; obtain ⟨l⟩:=arr; simp only at h1; subst h1; exact ⟨v,rfl,h2⟩
 case unit=>exact ⟨arr,rfl,h⟩
 case pair a b=>exact ⟨arr,rfl,ze0 h⟩
 case arr n e=>exact ⟨arr,rfl,h⟩
end Go.V
