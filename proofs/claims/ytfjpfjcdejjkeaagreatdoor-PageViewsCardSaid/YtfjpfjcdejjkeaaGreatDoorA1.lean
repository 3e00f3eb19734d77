/- Part of the proof. -/
import Derived.WalkKit
import Derived.Orders
import Derived.Lib.ConvBytes
import Derived.Laws.BytesArg
import Derived.Laws.Tables
set_option linter.all false
set_option linter.unusedVariables false
set_option linter.unusedSectionVars false
set_option linter.unusedSimpArgs false
namespace Go.V
inductive Ty where
 | int (k:IntKind) | bool | str | sl (e:Ty) | unit | pair (a b:Ty) | arr (n:Nat) (e:Ty)
 deriving DecidableEq
@[reducible] def Ty.den:Ty→Type
 | .int _=>Int
 | .bool=>Bool
 | .str=>ByteArray
 | .sl e=>List e.den
 | .unit=>Unit
 | .pair a b=>a.den × b.den
 | .arr _ e=>List e.den
def Ty.size:Ty→Nat
 | .int _ | .bool | .str | .sl _=>1
 | .unit=>0
 | .pair a b=>a.size + b.size
 | .arr n e=>n * e.size
def Ty.dflt:(T:Ty)→T.den
 | .int _=>(0:Int)
 | .bool=>false
 | .str=>(⟨#[]⟩:ByteArray)
 | .sl _=>[]
 | .unit=>()
 | .pair a b=>(a.dflt,b.dflt)
 | .arr n e=>List.replicate n e.dflt
def at_ (T:Ty) (l:List T.den) (i:Int):T.den:=l.getD i.toNat T.dflt
inductive Win where
 | whole
 | part (off n:Nat) (full:Bool)
def Win.app {α:Type}:Win→List α→List α
 | .whole,l=>l
 | .part off n _,l=>(l.drop off).take n
def Win.isWhole:Win→Bool
 | .whole=>true
 | .part _ _ full=>full
structure Stp where
 n:Nat
 sz:Nat
 i:Int
 o:Nat
inductive AV where
 | val (T:Ty) (x:T.den)
 | full (T:Ty) (l:List T.den)
 | nn (T:Ty) (l:List T.den)
 | nils
 | agg (gs:List AV)
 | tup (vs:List AV)
 | nilp
 | ptr (b off:Nat) (p:List Stp)
 | rptr (b:Nat) (i:Int) (o:Nat)
 | eptr (gs:List AV)
 | row (b:Nat) (w:Win)
 | vsl (b off n lo len:Nat)
 | fn (f:FuncId) (caps:List AV)
 | nilf
 | yld (b:Nat)
 | iface (t:TypeId) (v:AV)
 | nili
 | mp (b:Nat)
 | junk
inductive Box where
 | var (gs:List AV)
 | row (T:Ty) (fz:Bool) (l:List T.den)
 | map (K V:Ty) (l:List (K.den × V.den))
 | loop (busy:Bool) (f id:Nat) (env:List (Nat × AV))
 | dead
abbrev Env:=List (Nat × AV)
abbrev Bxs:=List (Nat × Box)
structure St where
 env:Env
 stk:List Env
 bxs:Bxs
def find {α:Type}:List (Nat × α)→Nat→Option α
 | [],_=>none
 | (k,v) :: l,n=>bif Nat.beq k n then some v else find l n
def setB:Bxs→Nat→Box→Bxs
 | [],k,b=>[(k,b)]
 | (j,c) :: l,k,b=>bif Nat.beq j k then (k,b) :: l else (j,c) :: setB l k b
def Box.toMap:Box→Option ((K:Ty) × (V:Ty) × List (K.den × V.den))
 | .map K V l=>some ⟨K,V,l⟩
 | .var _=>none
 | .row _ _ _=>none
 | .loop _ _ _ _=>none
 | .dead=>none
def mapAt (bx:Bxs) (b:Nat):Option ((K:Ty) × (V:Ty) × List (K.den × V.den)) :=
 match find bx b with
 | some x=>x.toMap
 | none=>none
def AV.size:AV→Nat
 | .val T _=>T.size
 | _=>1
def gsSize:List AV→Nat
 | []=>0
 | g :: gs=>g.size + gsSize gs
def Ty.gs:(T:Ty)→T.den→List AV
 | .unit,_=>[]
 | .pair a b,x=>a.gs x.1++b.gs x.2
 | .int k,x=>[.val (.int k) x]
 | .bool,x=>[.val .bool x]
 | .str,x=>[.val .str x]
 | .sl e,x=>[.val (.sl e) x]
 | .arr n e,x=>[.val (.arr n e) x]
def AV.gs:AV→List AV
 | .agg gs=>gs
 | v=>[v]
def Ty.av (T:Ty) (x:T.den):AV :=
 match T,x with
 | .pair a b,x=>.agg (Ty.gs (.pair a b) x)
 | .unit,_=>.agg []
 | T,x=>.val T x
def dropGs:List AV→Nat→Option (List AV)
 | gs,0=>some gs
 | [],_ + 1=>none
 | g :: gs,n + 1=>bif Nat.ble g.size (n + 1) then dropGs gs (n + 1 - g.size) else none
def takeGs:List AV→Nat→Option (List AV)
 | _,0=>some []
 | [],_ + 1=>none
 | g :: gs,n + 1=>bif Nat.ble g.size (n + 1) then (takeGs gs (n + 1 - g.size)).map (g :: ·) else none
def putGs:List AV→Nat→List AV→Option (List AV)
 | gs,0,new=>(dropGs gs (gsSize new)).map (new++·)
 | [],_ + 1,_=>none
 | g :: gs,n + 1,new=>bif Nat.ble g.size (n + 1) then (putGs gs (n + 1 - g.size) new).map (g :: ·) else none
def conv (bx:Bxs) (T:Ty) (v:AV):Option T.den :=
 match v with
 | .val S x=>if h:S = T then some (h ▸ x) else none
 | .full S l=>if h:Ty.sl S = T then some (h ▸ (show (Ty.sl S).den from l)) else none
 | .nn S l=>if h:Ty.sl S = T then some (h ▸ (show (Ty.sl S).den from l)) else none
 | .nils=>match T with
  | .sl _=>some []
  | _=>none
 | .row b w=>match find bx b with
  | some (.row S true l)=>if h:Ty.sl S = T then some (h ▸ (show (Ty.sl S).den from w.app l)) else none
  | _=>none
 | _=>none
def Ty.rd (bx:Bxs):(T:Ty)→List AV→Option (T.den × List AV)
 | .unit,l=>some ((),l)
 | .pair a b,l=>match a.rd bx l with
  | some (x,l)=>match b.rd bx l with
   | some (y,l)=>some ((x,y),l)
   | none=>none
  | none=>none
 | T,v :: l=>match conv bx T v with
  | some x=>some (x,l)
  | none=>none
 | _,[]=>none
def AV.isAgg:AV→Bool
 | .agg _=>true
 | .val (.arr _ _) _=>true
 | _=>false
def Ty.isAgg:Ty→Bool
 | .pair _ _ | .unit | .arr _ _=>true
 | _=>false
def norm (bx:Bxs) (T:Ty) (v:AV):Option T.den :=
 match T.rd bx v.gs with
 | some (x,[])=>bif v.isAgg == T.isAgg then some x else none
 | _=>none
def Ty.put (bx:Bxs) (T:Ty) (x:T.den) (o:Nat) (new:List AV):Option T.den :=
 match putGs (T.gs x) o new with
 | some gs=>match T.rd bx gs with
  | some (y,[])=>some y
  | _=>none
 | none=>none
def AV.okGs:AV→Bool
 | .junk | .tup _=>false
 | _=>true
def AV.single:AV→Bool
 | .agg _ | .tup _ | .junk=>false
 | .val (.arr _ _) _ | .val (.pair _ _) _ | .val .unit _=>false
 | _=>true
inductive UT where
 | int (k:IntKind) | bool | str | ptr (e:Nat) | sl (e:Nat) | arr (n e:Nat) | st (fs:List (Nat × Nat))
 | fn | iface | map (k e:Nat) | tup | oth
structure HSpec where
 params:List Ty
 res:List Ty
 fn:List AV→Option (List AV)
structure Fun where
 code:Code
 ntmps:Nat
 res:List (ResultVar)
 np:Nat
structure Cfg where
 unders:List UT
 sizes:List Nat
 tys:List (Option Ty)
 bytes:List Nat
 zeros:List (Option (List AV))
 glob:Nat→Option AV
 eqs:List Nat:=[]
 frz:List Nat:=[]
 own:List Nat:=[]
def Cfg.under (C:Cfg) (t:Nat):UT:=C.unders.getD t .oth
def Cfg.size (C:Cfg) (t:Nat):Nat:=C.sizes.getD t 0
def Cfg.ty (C:Cfg) (t:Nat):Option Ty:=C.tys.getD t none
def Cfg.zero (C:Cfg) (t:Nat):Option (List AV):=C.zeros.getD t none
def UT.agg:UT→Bool
 | .st _ | .arr _ _=>true
 | _=>false
mutual
def ofConst:Value→Option AV
 | .int k n=>some (.val (.int k) n)
 | .bool b=>some (.val .bool b)
 | .string s=>some (.val .str s)
 | .slice none 0 0=>some .nils
 | .pointer none=>some .nilp
 | .nilFunc=>some .nilf
 | .nilIface=>some .nili
 | _=>none
end
def ev (C:Cfg) (env:Env):Operand→Option AV
 | .tmp t=>find env t
 | .const v=>ofConst v
 | .global g=>C.glob g
 | .func f=>some (.fn f [])
inductive Eff where
 | none
 | add (k:Nat) (b:Box)
 | upd (k:Nat) (b:Box)
 | app (k:Nat) (b:Box)
mutual
def AV.has (k:Nat):AV→Bool
 | .row b _=>Nat.beq b k
 | .rptr b _ _=>Nat.beq b k
 | .agg gs=>hasL k gs
 | .tup gs=>hasL k gs
 | .fn _ gs=>hasL k gs
 | .iface _ v=>v.has k
 | _=>false
def hasL (k:Nat):List AV→Bool
 | []=>false
 | g :: gs=>g.has k || hasL k gs
end
def AV.stale (k:Nat) (v:AV):AV:=bif v.has k then .junk else v
def staleL (k:Nat):List AV→List AV
 | []=>[]
 | g :: gs=>g.stale k :: staleL k gs
def staleE (k:Nat):Env→Env
 | []=>[]
 | (n,v) :: l=>(n,v.stale k) :: staleE k l
def staleS (k:Nat):List Env→List Env
 | []=>[]
 | e :: l=>staleE k e :: staleS k l
def staleB (k:Nat):Bxs→Bxs
 | []=>[]
 | (n,.var gs) :: l=>(n,.var (staleL k gs)) :: staleB k l
 | (n,.loop u f i env) :: l=>(n,.loop u f i (staleE k env)) :: staleB k l
 | (n,b) :: l=>(n,b) :: staleB k l
def Eff.apply (e:Eff) (s:St):St :=
 match e with
 | .none=>s
 | .add k b=>{ s with bxs:=(k,b) :: s.bxs }
 | .upd k b=>{ s with bxs:=setB s.bxs k b }
 | .app k b=>{ env:=staleE k s.env,stk:=staleS k s.stk,bxs:=setB (staleB k s.bxs) k b }
def shlV (k:IntKind) (x y:Int):Int:=k.wrap (x * 2 ^ (min y.toNat k.bits))
def shrV (k:IntKind) (x y:Int):Int:=x.fdiv (2 ^ (min y.toNat k.bits))
def andV (k:IntKind) (x y:Int):Int:=k.wrap (BitVec.ofInt k.bits x &&& BitVec.ofInt k.bits y).toNat
def orV (k:IntKind) (x y:Int):Int:=k.wrap (BitVec.ofInt k.bits x ||| BitVec.ofInt k.bits y).toNat
def xorV (k:IntKind) (x y:Int):Int:=k.wrap (BitVec.ofInt k.bits x ^^^ BitVec.ofInt k.bits y).toNat
def andNotV (k:IntKind) (x y:Int):Int:=k.wrap (BitVec.ofInt k.bits x &&& ~~~ BitVec.ofInt k.bits y).toNat
abbrev R3:=Option (Bool × AV × Eff)
def ok (v:AV):R3:=some (true,v,.none)
def okIf (c:Bool) (v:AV):R3:=some (c,v,.none)
def okB (b:Bool):R3:=some (true,.val .bool b,.none)
def intOp (op:BinOp) (k:IntKind) (x y:Int):R3 :=
 match op with
 | .add=>ok (.val (.int k) (k.wrap (x + y)))
 | .sub=>ok (.val (.int k) (k.wrap (x - y)))
 | .mul=>ok (.val (.int k) (k.wrap (x * y)))
 | .quo=>okIf (decide (y ≠ 0)) (.val (.int k) (k.wrap (x.tdiv y)))
 | .rem=>okIf (decide (y ≠ 0)) (.val (.int k) (x.tmod y))
 | .and=>ok (.val (.int k) (andV k x y))
 | .or=>ok (.val (.int k) (orV k x y))
 | .xor=>ok (.val (.int k) (xorV k x y))
 | .andNot=>ok (.val (.int k) (andNotV k x y))
 | .eql=>okB (decide (x = y))
 | .neq=>okB (decide (x ≠ y))
 | .lss=>okB (decide (x < y))
 | .leq=>okB (decide (x≤y))
 | .gtr=>okB (decide (x > y))
 | .geq=>okB (decide (x ≥ y))
 | .shl=>okIf (decide (0≤y)) (.val (.int k) (shlV k x y))
 | .shr=>okIf (decide (0≤y)) (.val (.int k) (shrV k x y))
def catOk (x y:ByteArray):Bool:=decide (x.size + y.size≤9223372036854775807)
def strLt (x y:ByteArray):Bool:=Op.bytesLess x.toList y.toList
def strOp (op:BinOp) (x y:ByteArray):R3 :=
 match op with
 | .add=>okIf (catOk x y) (.val .str (x++y))
 | .eql=>okB (decide (x = y))
 | .neq=>okB (!decide (x = y))
 | .lss=>okB (strLt x y)
 | .leq=>okB (strLt x y || decide (x = y))
 | .gtr=>okB (!(strLt x y || decide (x = y)))
 | .geq=>okB (!strLt x y)
 | _=>none
def eqGs (C:Cfg):List (Nat × Nat)→List AV→List AV→Option Bool
 | [],[],[]=>some true
 | (_,t) :: fs,.val (.int k) x :: a,.val (.int j) y :: b=>match C.under t with
  | .int _=>if k = j then (eqGs C fs a b).map (decide ((show Int from x) = (show Int from y)) && ·) else none
  | _=>none
 | (_,t) :: fs,.val .bool x :: a,.val .bool y :: b=>match C.under t with
  | .bool=>(eqGs C fs a b).map (decide ((show Bool from x) = (show Bool from y)) && ·)
  | _=>none
 | (_,t) :: fs,.val .str x :: a,.val .str y :: b=>match C.under t with
  | .str=>(eqGs C fs a b).map (decide ((show ByteArray from x) = (show ByteArray from y)) && ·)
  | _=>none
 | _,_,_=>none
def eqV (op:BinOp) (c:Bool):R3 :=
 match op with
 | .eql=>okB c
 | .neq=>okB (!c)
 | _=>none
def binV (C:Cfg) (op:BinOp) (t:Nat) (x y:AV):R3 :=
 match x,y with
 | .val (.int k) a,.val (.int j) b=>match op with
  | .shl | .shr=>intOp op k a b
  | _=>if k = j then intOp op k a b else none
 | .val .str a,.val .str b=>strOp op a b
 | .val .bool a,.val .bool b=>match C.under t with
  | .bool=>eqV op (decide ((show Bool from a) = (show Bool from b)))
  | _=>none
 | .nilp,.nilp=>match C.under t with
  | .ptr _=>eqV op true
  | _=>none
 | .ptr ..,.nilp | .rptr ..,.nilp | .eptr ..,.nilp=>match C.under t with
  | .ptr _=>eqV op false
  | _=>none
 | .nils,.nils=>match C.under t with
  | .sl _=>eqV op true
  | _=>none
 | .nn ..,.nils=>match C.under t with
  | .sl _=>eqV op false
  | _=>none
 | .nilf,.nilf=>match C.under t with
  | .fn=>eqV op true
  | _=>none
 | .fn ..,.nilf=>match C.under t with
  | .fn=>eqV op false
  | _=>none
 | .agg a,.agg b=>match C.under t with
  | .st fs=>if C.eqs.contains t = true then match eqGs C fs a b with
    | some c=>eqV op c
    | none=>none
   else none
  | _=>none
 | _,_=>none
def unV (op:UnOp) (x:AV):R3 :=
 match op,x with
 | .neg,.val (.int k) n=>ok (.val (.int k) (k.wrap (0 - n)))
 | .xor,.val (.int k) n=>ok (.val (.int k) (xorV k (if k.signed then -1 else k.max) n))
 | .not,.val .bool b=>ok (.val .bool (!b))
 | _,_=>none
def viewT (C:Cfg) (bx:Bxs) (e:Nat) (v:AV):Option ((T:Ty) × List T.den) :=
 match v with
 | .val (.sl T) l=>some ⟨T,l⟩
 | .full T l=>some ⟨T,l⟩
 | .nn T l=>some ⟨T,l⟩
 | .nils=>match C.ty e with
  | some T=>some ⟨T,[]⟩
  | none=>none
 | .row b w=>match find bx b with
  | some (.row T _ l)=>some ⟨T,w.app l⟩
  | _=>none
 | _=>none
def ofBytes (l:List Int):ByteArray:=⟨(l.map fun n=>UInt8.ofNat n.toNat).toArray⟩
def toBytes (s:ByteArray):List Int:=s.data.toList.map fun b=>(b.toNat:Int)
def byteAt (s:ByteArray) (i:Int):Int:=((s.data.toList.getD i.toNat 0).toNat:Int)
def inR (i:Int) (n:Nat):Bool:=decide (0≤i) && decide (i < n)
def gsAt:List AV→List Stp→Option (List AV)
 | gs,[]=>some gs
 | .val (.arr n T) l :: _,s :: p=>if n = s.n∧T.size = s.sz then match dropGs (T.gs (at_ T l s.i)) s.o with
   | some gs=>gsAt gs p
   | none=>none
  else none
 | _,_=>none
def loadAt (C:Cfg) (t:Nat) (gs:List AV):R3 :=
 match C.under t with
 | .st _=>if C.size t = 0 then none else match takeGs gs (C.size t) with
  | some gs=>ok (.agg gs)
  | none=>none
 | .arr n _=>match gs with
  | .val (.arr m T) l :: _=>if n = m∧C.size t = m * T.size∧C.size t ≠ 0 then ok (.val (.arr m T) l) else none
  | _=>none
 | .oth | .tup=>none
 | _=>match gs with
  | g :: _=>if g.single = true then ok g else none
  | []=>none
def loadV (C:Cfg) (bx:Bxs) (t:Nat) (a:AV):R3 :=
 match a with
 | .eptr gs=>loadAt C t gs
 | .ptr b off p=>match find bx b with
  | some (.var gs)=>match dropGs gs off with
   | some gs=>match gsAt gs p with
    | some gs=>loadAt C t gs
    | none=>none
   | none=>none
  | _=>none
 | .rptr b i o=>match find bx b with
  | some (.row T _ l)=>match dropGs (T.gs (at_ T l i)) o with
   | some gs=>loadAt C t gs
   | none=>none
  | _=>none
 | _=>none
def putAt (bx:Bxs):List AV→Nat→List Stp→List AV→Option (List AV)
 | gs,off,[],new=>putGs gs off new
 | gs,off,s :: p,new=>match dropGs gs off with
  | some (.val (.arr n T) l :: _)=>if n = s.n∧T.size = s.sz then
    match putAt bx (T.gs (at_ T l s.i)) s.o p new with
    | some es=>match T.rd bx es with
     | some (y,[])=>putGs gs off [.val (.arr n T) (l.set s.i.toNat y)]
     | _=>none
    | none=>none
   else none
  | _=>none
def storeV (C:Cfg) (bx:Bxs) (t:Nat) (a v:AV):R3 :=
 if v.okGs = true∧gsSize v.gs = C.size t∧C.size t ≠ 0 then
  match a with
  | .ptr b off p=>match find bx b with
   | some (.var gs)=>match putAt bx gs off p v.gs with
    | some gs=>some (true,.tup [],.upd b (.var gs))
    | none=>none
   | _=>none
  | .rptr b i o=>match find bx b with
   | some (.row T false l)=>match T.put bx (at_ T l i) o v.gs with
    | some y=>some (true,.tup [],.upd b (.row T false (l.set i.toNat y)))
    | none=>none
   | _=>none
  | _=>none
 else none
def fieldOff (C:Cfg) (s f:Nat):Option (Nat × Nat) :=
 match C.under s with
 | .st fs=>fs[f]?
 | _=>none
def addP:List Stp→Nat→List Stp
 | [],_=>[]
 | [s],o=>[{ s with o:=s.o + o }]
 | s :: p,o=>s :: addP p o
def fieldAddrV (C:Cfg) (s:Nat) (a:AV) (f:Nat):R3 :=
 match fieldOff C s f with
 | some (o,ft)=>if C.size ft = 0 then none else match a with
  | .eptr gs=>match dropGs gs o with
   | some gs=>ok (.eptr gs)
   | none=>none
  | .ptr b off []=>ok (.ptr b (off + o) [])
  | .ptr b off p=>ok (.ptr b off (addP p o))
  | .rptr b i j=>ok (.rptr b i (j + o))
  | _=>none
 | none=>none
def fieldV (C:Cfg) (s:Nat) (x:AV) (f:Nat):R3 :=
 match fieldOff C s f,x with
 | some (o,t),.agg gs=>match dropGs gs o with
  | some gs=>loadAt C t gs
  | none=>none
 | _,_=>none
def idx (v:AV):Option Int :=
 match v with
 | .val (.int _) i=>some i
 | _=>none
def indexAddrV (C:Cfg) (bx:Bxs) (t:Nat) (a iv:AV):R3 :=
 match idx iv with
 | none=>none
 | some i=>match C.under t with
  | .arr n e=>if C.size e = 0 then none else match a with
   | .eptr (.val (.arr m T) l :: _)=>if n = m∧T.size = C.size e then okIf (inR i n) (.eptr (T.gs (at_ T l i))) else none
   | .ptr b off p=>okIf (inR i n) (.ptr b off (p++[⟨n,C.size e,i,0⟩]))
   | _=>none
  | .sl e=>if C.size e = 0 then none else match a with
   | .row b .whole=>match find bx b with
    | some (.row T _ l)=>if T.size = C.size e then okIf (inR i l.length) (.rptr b i 0) else none
    | _=>none
   | .row b (.part off n _)=>match find bx b with
    | some (.row T _ _)=>if T.size = C.size e then okIf (inR i n) (.rptr b (off + i) 0) else none
    | _=>none
   | .vsl b off m lo n=>if C.size e = 1 then okIf (inR i n) (.ptr b off [⟨m,1,lo + i,0⟩]) else none
   | a=>match viewT C bx e a with
    | some ⟨T,l⟩=>if T.size = C.size e then okIf (inR i l.length) (.eptr (T.gs (at_ T l i))) else none
    | none=>none
  | _=>none
def indexV (C:Cfg) (t:Nat) (x iv:AV):R3 :=
 match idx iv with
 | none=>none
 | some i=>match C.under t,x with
  | .str,.val .str s=>okIf (inR i s.size) (.val (.int .u8) (byteAt s i))
  | .arr n e,.val (.arr m T) l=>if n = m∧T.size = C.size e∧C.size e ≠ 0 then match loadAt C e (T.gs (at_ T l i)) with
    | some (_,v,_)=>okIf (inR i n) v
    | none=>none
   else none
  | _,_=>none
def cutL {α:Type} (l:List α) (lo hi:Option Int):List α :=
 match lo,hi with
 | none,none=>l
 | some a,none=>l.drop a.toNat
 | none,some b=>l.take b.toNat
 | some a,some b=>(l.take b.toNat).drop a.toNat
def cutOk (n:Nat) (lo hi:Option Int):Bool :=
 match lo,hi with
 | none,none=>true
 | some a,none=>decide (0≤a) && decide (a≤n)
 | none,some b=>decide (0≤b) && decide (b≤n)
 | some a,some b=>decide (0≤a) && decide (a≤b) && decide (b≤n)
def cutHi (n:Nat):Option Int→Nat
 | some h=>h.toNat
 | none=>n
def cutS (s:ByteArray) (lo hi:Option Int):ByteArray:=s.extract ((lo.getD 0).toNat) (cutHi s.size hi)
def idxO (C:Cfg) (env:Env):Option Operand→Option (Option Int)
 | none=>some none
 | some x=>match ev C env x with
  | some v=>match idx v with
   | some i=>some (some i)
   | none=>none
  | none=>none
def cutFrom (lo:Option Int):Nat:=(lo.getD 0).toNat
def cutLen (n:Nat) (lo hi:Option Int):Nat:=cutHi n hi - cutFrom lo
def sliceV (C:Cfg) (bx:Bxs) (t:Nat) (x:AV) (lo hi mx:Option Int):R3 :=
 match C.under t with
 | .str=>match x,mx with
  | .val .str s,none=>okIf (cutOk s.size lo hi) (.val .str (cutS s lo hi))
  | _,_=>none
 | .sl e=>if C.size e = 0 then none else match x with
  | .row b w=>match find bx b with
   | some (.row T _ l)=>if T.size = C.size e then
     match mx with
     | none=>match w with
      | .whole=>okIf (cutOk l.length lo hi) (.row b (.part (cutFrom lo) (cutLen l.length lo hi) false))
      | .part off n _=>okIf (cutOk n lo hi) (.row b (.part (off + cutFrom lo) (cutLen n lo hi) false))
     | some m=>match w,hi with
      | .whole,some h=>okIf (cutOk l.length lo hi && decide (h = m)) (.row b (.part (cutFrom lo) (cutLen l.length lo hi) true))
      | _,_=>none
    else none
   | _=>none
  | x=>match viewT C bx e x with
   | some ⟨T,l⟩=>if T.size = C.size e then match mx with
     | none=>okIf (cutOk l.length lo hi) (.val (.sl T) (cutL l lo hi))
     | some m=>match hi with
      | some h=>match x with
       | .nils=>okIf (cutOk l.length lo (some h) && decide (h = m)) .nils
       | _=>okIf (cutOk l.length lo (some h) && decide (h = m)) (.full T (cutL l lo (some h)))
      | none=>none
    else none
   | none=>none
 | .arr n e=>match x,mx with
  | .ptr b off [],none=>if C.size e = 1 then okIf (cutOk n lo hi) (.vsl b off n (cutFrom lo) (cutLen n lo hi)) else none
  | .eptr [.val (.arr k T) l],none=>if k = n∧T.size = C.size e∧C.size e ≠ 0 then okIf (cutOk n lo hi) (.val (.sl T) (cutL l lo hi)) else none
  | _,_=>none
 | _=>none
def viewA (C:Cfg) (bx:Bxs) (e:Nat) (v:AV):Option ((T:Ty) × List T.den) :=
 match v with
 | .vsl b off m lo n=>match find bx b with
  | some (.var gs)=>match dropGs gs off with
   | some (.val (.arr k T) l :: _)=>if k = m∧T.size = 1 then some ⟨T,(l.drop lo).take n⟩ else none
   | _=>none
  | _=>none
 | v=>viewT C bx e v
def appLim:Nat:=1073741824
def moreV (C:Cfg) (bx:Bxs) (e:Nat) (y:AV):Option ((T:Ty) × List T.den) :=
 match y with
 | .val .str s=>some ⟨.int .u8,toBytes s⟩
 | y=>viewA C bx e y
def slOrStr:UT→Bool
 | .sl _ | .str=>true
 | _=>false
def appendV (C:Cfg) (bx:Bxs) (key t:Nat) (x y:AV) (yt:Nat):R3 :=
 match C.under t with
 | .sl e=>match moreV C bx e y with
  | none=>none
  | some ⟨S,m⟩=>if C.ty e = some S∧C.size e ≠ 0∧slOrStr (C.under yt) = true then
    match x with
    | .nils=>some (decide (m.length≤appLim),.row key .whole,.add key (.row S false m))
    | .full _ []=>some (decide (m.length≤appLim),.row key .whole,.add key (.row S (C.frz.any (Nat.beq t)) m))
    | .full T l=>if h:S = T then some (decide (l.length + m.length≤appLim),.row key .whole,.add key (.row T true (l++(h ▸ m)))) else none
    | .row b w=>match find bx b with
     | some (.row T fz l)=>if h:S = T then
       bif (!fz || w.isWhole) then
        some (decide ((w.app l).length + m.length≤appLim),.row b .whole,.app b (.row T fz (w.app l++(h ▸ m))))
       else none
      else none
     | _=>none
    | _=>none
   else none
 | _=>none
def minV:List AV→Option AV
 | [.val (.int k) a,.val (.int _) b]=>some (.val (.int k) (if (show Int from b) < (show Int from a) then b else a))
 | _=>none
def maxV:List AV→Option AV
 | [.val (.int k) a,.val (.int _) b]=>some (.val (.int k) (if (show Int from b) > (show Int from a) then b else a))
 | _=>none
def lenV (C:Cfg) (bx:Bxs) (t:Nat) (x:AV):R3 :=
 match C.under t,x with
 | .str,.val .str s=>ok (.val (.int .i64) (s.size:Int))
 | .arr n _,_=>ok (.val (.int .i64) (n:Int))
 | .ptr a,_=>match C.under a with
  | .arr n _=>ok (.val (.int .i64) (n:Int))
  | _=>none
 | .sl _,.vsl _ _ _ _ n=>ok (.val (.int .i64) (n:Int))
 | .sl e,x=>match viewT C bx e x with
  | some ⟨_,l⟩=>ok (.val (.int .i64) (l.length:Int))
  | none=>none
 | _,_=>none
def setRange {α:Type} (l:List α) (lo:Nat) (m:List α):List α:=l.take lo++m++l.drop (lo + m.length)
def copyV (C:Cfg) (bx:Bxs) (t:Nat) (x y:AV):R3 :=
 match C.under t with
 | .sl e=>if C.size e = 1 then match moreV C bx e y with
  | none=>none
  | some ⟨S,m⟩=>match x with
   | .vsl b off q lo n=>match find bx b with
    | some (.var gs)=>match dropGs gs off with
     | some (.val (.arr k T) l :: _)=>if h:S = T∧k = q∧T.size = 1 then
       match putGs gs off [.val (.arr k T) (setRange l lo ((h.1 ▸ m:List T.den).take n))] with
       | some gs=>some (true,.val (.int .i64) (((m.take n).length:Nat):Int),.upd b (.var gs))
       | none=>none
      else none
     | _=>none
    | _=>none
   | _=>none
  else none
 | _=>none
def buildSt (C:Cfg) (fs:List (Nat × Nat)):List (Nat × AV)→List AV→Option (List AV)
 | [],gs=>some gs
 | (i,v) :: ps,gs=>match fs[i]? with
  | some (o,t)=>if v.okGs = true∧gsSize v.gs = C.size t∧C.size t ≠ 0 then match putGs gs o v.gs with
    | some gs=>buildSt C fs ps gs
    | none=>none
   else none
  | none=>none
def buildL (bx:Bxs) (T:Ty):List (Nat × AV)→List T.den→Option (List T.den)
 | [],l=>some l
 | (i,v) :: ps,l=>if v.okGs = true∧i < l.length then match norm bx T v with
   | some x=>buildL bx T ps (l.set i x)
   | none=>none
  else none
def evL (C:Cfg) (env:Env):List Operand→Option (List AV)
 | []=>some []
 | x :: l=>match ev C env x with
  | some v=>(evL C env l).map (v :: ·)
  | none=>none
def evP (C:Cfg) (env:Env):List (Nat × Operand)→Option (List (Nat × AV))
 | []=>some []
 | (i,x) :: l=>match ev C env x with
  | some v=>(evP C env l).map ((i,v) :: ·)
  | none=>none
def buildV (C:Cfg) (bx:Bxs) (t:Nat) (parts:List (Nat × AV)):R3 :=
 match C.under t with
 | .st fs=>match C.zero t with
  | some gs=>if fs.all (fun f=>!Nat.beq (C.size f.2) 0) = true then match buildSt C fs parts gs with
    | some gs=>ok (.agg gs)
    | none=>none
   else none
  | none=>none
 | .arr n e=>match C.ty t with
  | some (.arr m T)=>if n = m∧T.size = C.size e∧C.size e ≠ 0 then match buildL bx T parts (List.replicate m T.dflt) with
    | some l=>ok (.val (.arr m T) l)
    | none=>none
   else none
  | _=>none
 | _=>none
def buildSliceV (C:Cfg) (bx:Bxs) (t len:Nat) (parts:List (Nat × AV)):R3 :=
 match C.under t with
 | .sl e=>match C.ty e with
  | some T=>if C.size e ≠ 0∧len * C.size e≤16777216 then match buildL bx T parts (List.replicate len T.dflt) with
    | some l=>ok (.full T l)
    | none=>none
   else none
  | none=>none
 | _=>none
def convertV (C:Cfg) (bx:Bxs) (key src dst:Nat) (x:AV):R3 :=
 match C.under src,C.under dst,x with
 | .int _,.int k,.val (.int _) n=>ok (.val (.int k) (k.wrap n))
 | .str,.str,.val .str s=>ok (.val .str s)
 | .sl e,.str,x=>match C.under e with
  | .int .u8=>match viewA C bx e x with
   | some ⟨.int .u8,l⟩=>ok (.val .str (ofBytes l))
   | _=>none
  | _=>none
 | .str,.sl e,.val .str s=>match C.under e with
  | .int .u8=>some (true,.row key .whole,.add key (.row (.int .u8) false (toBytes s)))
  | _=>none
 | _,_,_=>none
def makeSliceV (C:Cfg) (key t:Nat) (n c:AV):R3 :=
 match C.under t,idx n,idx c with
 | .sl e,some n,some c=>match C.ty e with
  | some T=>if C.size e ≠ 0 then some (decide (0≤n) && decide (n≤c) && decide (c≤appLim),.row key .whole,.add key (.row T false (List.replicate n.toNat T.dflt))) else none
  | none=>none
 | _,_,_=>none
def Ty.keyOk:Ty→Bool
 | .int _=>true
 | _=>false
def keyEq:(T:Ty)→T.den→T.den→Bool
 | .int _,x,y=>decide ((show Int from x) = y)
 | _,_,_=>false
def mapSet (K V:Ty):List (K.den × V.den)→K.den→V.den→List (K.den × V.den)
 | [],k,v=>[(k,v)]
 | (j,u) :: l,k,v=>bif keyEq K k j then (k,v) :: l else (j,u) :: mapSet K V l k v
def mapHas (K V:Ty):List (K.den × V.den)→K.den→Bool
 | [],_=>false
 | (j,_) :: l,k=>bif keyEq K k j then true else mapHas K V l k
def mapGet (K V:Ty):List (K.den × V.den)→K.den→V.den
 | [],_=>V.dflt
 | (j,u) :: l,k=>bif keyEq K k j then u else mapGet K V l k
def makeMapV (C:Cfg) (key t:Nat):R3 :=
 match C.under t with
 | .map k e=>match C.ty k,C.ty e with
  | some K,some V=>some (true,.mp key,.add key (.map K V []))
  | _,_=>none
 | _=>none
def mapUpdateV (C:Cfg) (bx:Bxs) (t:Nat) (m k v:AV):R3 :=
 match C.under t,m with
 | .map kt _,.mp b=>match mapAt bx b with
  | some ⟨K,V,l⟩=>if K.keyOk = true∧C.ty kt = some K then
    match norm bx K k,norm bx V v with
    | some x,some y=>some (true,.tup [],.upd b (.map K V (mapSet K V l x y)))
    | _,_=>none
   else none
  | _=>none
 | _,_=>none
def lookupV (C:Cfg) (bx:Bxs) (t:Nat) (m k:AV) (ok:Bool):R3 :=
 match C.under t,m with
 | .map kt e,.mp b=>match mapAt bx b with
  | some ⟨K,V,l⟩=>if K.keyOk = true∧C.ty kt = some K∧C.ty e = some V then
    match norm bx K k with
    | some x=>some (true,if ok then .tup [V.av (mapGet K V l x),.val .bool (mapHas K V l x)] else V.av (mapGet K V l x),.none)
    | none=>none
   else none
  | _=>none
 | _,_=>none
def UT.conc:UT→Bool
 | .int _ | .bool | .str | .ptr _ | .sl _ | .st _=>true
 | _=>false
def oneG:List AV→Option AV
 | [g]=>bif g.single then some g else none
 | _=>none
def zeroAV (C:Cfg) (t:Nat):Option AV :=
 match C.zero t with
 | some gs=>match C.under t with
  | .st _=>some (.agg gs)
  | .int _ | .bool | .str | .ptr _ | .sl _=>oneG gs
  | _=>none
 | none=>none
def typeAssertV (C:Cfg) (t:Nat) (x:AV):R3 :=
 if (C.under t).conc = true then match x with
  | .iface u v=>if u = t then some (true,.tup [v,.val .bool true],.none) else match zeroAV C t with
   | some z=>some (true,.tup [z,.val .bool false],.none)
   | none=>none
  | .nili=>match zeroAV C t with
   | some z=>some (true,.tup [z,.val .bool false],.none)
   | none=>none
  | _=>none
 else none
def makeIfaceV (C:Cfg) (t:Nat) (x:AV):R3 :=
 if (C.under t).conc = true then match x with
  | .val (.int k) n=>ok (.iface t (.val (.int k) n))
  | .val .str s=>ok (.iface t (.val .str s))
  | .agg []=>ok (.iface t (.agg []))
  | _=>none
 else none
def eqNili (C:Cfg) (op:BinOp) (t:Nat) (x:AV):R3 :=
 match C.under t,x with
 | .iface,.iface _ _=>eqV op false
 | .iface,.nili=>eqV op true
 | _,_=>none
def clearV (C:Cfg) (bx:Bxs) (t:Nat) (x:AV):R3 :=
 match C.under t with
 | .sl e=>match C.ty e,x with
  | some _,.nils=>some (true,.tup [],.none)
  | some S,.row b w=>match find bx b with
   | some (.row T false l)=>if S = T∧T.size ≠ 0 then match w with
     | .whole=>some (true,.tup [],.upd b (.row T false (List.replicate l.length T.dflt)))
     | .part off n _=>some (true,.tup [],.upd b (.row T false (setRange l off (List.replicate n T.dflt))))
    else none
   | _=>none
  | _,_=>none
 | _=>none
def capsOk:List AV→Bool
 | []=>true
 | .ptr _ 0 [] :: l=>capsOk l
 | _=>false
def keyFree (bx:Bxs) (k:Nat) (r:R3):R3 :=
 match find bx k with
 | some _=>none
 | none=>r
def AV.toFull:AV→Option ((T:Ty) × List T.den)
 | .full T l=>some ⟨T,l⟩
 | _=>none
def ownRow (bx:Bxs) (key:Nat) (r:R3):R3 :=
 match r with
 | some (true,v,.none)=>match v.toFull with
  | some x=>keyFree bx key (some (true,.row key .whole,.add key (.row x.1 false x.2)))
  | none=>none
 | _=>none
def execA (C:Cfg) (base:Nat) (o:Oper) (s:St):R3 :=
 let key:=base + (o.dst.getD 0)
 match o.op with
 | .move x | .assign x=>match ev C s.env x with
  | some v=>ok v
  | none=>none
 | .alloc t=>match C.zero t with
  | some gs=>keyFree s.bxs key (some (true,.ptr key 0 [],.add key (.var gs)))
  | none=>none
 | .box _ x=>match ev C s.env x with
  | some v=>if v.okGs = true then keyFree s.bxs key (some (true,.ptr key 0 [],.add key (.var v.gs))) else none
  | none=>none
 | .build t parts=>match evP C s.env parts.toList with
  | some ps=>buildV C s.bxs t ps
  | none=>none
 | .buildSlice t n parts=>match evP C s.env parts.toList with
  | some ps=>bif C.own.any (Nat.beq t) && !ps.isEmpty then ownRow s.bxs key (buildSliceV C s.bxs t n ps) else buildSliceV C s.bxs t n ps
  | none=>none
 | .load t a=>match ev C s.env a with
  | some a=>loadV C s.bxs t a
  | none=>none
 | .store t a x=>match ev C s.env a,ev C s.env x with
  | some a,some v=>storeV C s.bxs t a v
  | _,_=>none
 | .nilCheck x=>match ev C s.env x with
  | some (.ptr b off p)=>ok (.ptr b off p)
  | some (.rptr b i j)=>ok (.rptr b i j)
  | some (.eptr gs)=>ok (.eptr gs)
  | _=>none
 | .binOp op t x (.const .nilIface) _=>match ev C s.env x with
  | some a=>eqNili C op t a
  | none=>none
 | .typeAssert x _ t true=>match ev C s.env x with
  | some a=>typeAssertV C t a
  | none=>none
 | .makeInterface t x=>match ev C s.env x with
  | some a=>makeIfaceV C t a
  | none=>none
 | .makeMap t none=>keyFree s.bxs key (makeMapV C key t)
 | .mapUpdate t m k x=>match ev C s.env m,ev C s.env k,ev C s.env x with
  | some m,some k,some v=>mapUpdateV C s.bxs t m k v
  | _,_,_=>none
 | .lookup t m k ok=>match ev C s.env m,ev C s.env k with
  | some m,some k=>lookupV C s.bxs t m k ok
  | _,_=>none
 | .binOp op t x y _=>match ev C s.env x,ev C s.env y with
  | some a,some b=>binV C op t a b
  | _,_=>none
 | .unOp op _ x=>match ev C s.env x with
  | some a=>unV op a
  | none=>none
 | .convert src dst x=>match ev C s.env x with
  | some a=>match convertV C s.bxs key src dst a with
   | some (c,v,.add k b)=>keyFree s.bxs key (some (c,v,.add k b))
   | r=>r
  | none=>none
 | .makeFunc (.func f) first captured=>match first.toList,evL C s.env captured.toList with
  | [],some l=>if capsOk l = true then ok (.fn f l) else none
  | _,_=>none
 | .makeSlice t n c=>match ev C s.env n,ev C s.env c with
  | some n,some c=>keyFree s.bxs key (makeSliceV C key t n c)
  | _,_=>none
 | .slice t x lo hi mx=>match ev C s.env x,idxO C s.env lo,idxO C s.env hi,idxO C s.env mx with
  | some v,some lo,some hi,some mx=>sliceV C s.bxs t v lo hi mx
  | _,_,_,_=>none
 | .fieldAddr t x f=>match ev C s.env x with
  | some a=>fieldAddrV C t a f
  | none=>none
 | .field t x f=>match ev C s.env x with
  | some a=>fieldV C t a f
  | none=>none
 | .indexAddr t x i=>match ev C s.env x,ev C s.env i with
  | some a,some i=>indexAddrV C s.bxs t a i
  | _,_=>none
 | .index t x i=>match ev C s.env x,ev C s.env i with
  | some a,some i=>indexV C t a i
  | _,_=>none
 | .extract x i=>match ev C s.env x with
  | some (.tup vs)=>match vs[i]? with
   | some v=>ok v
   | none=>none
  | _=>none
 | .call { callee:=.builtin b,args,argTypes }=>match evL C s.env args.toList with
  | some vs=>match b,argTypes.toList,vs with
   | .len,[t],[x]=>lenV C s.bxs t x
   | .append,[t,yt],[x,y]=>match appendV C s.bxs key t x y yt with
    | some (c,v,.add k b)=>keyFree s.bxs key (some (c,v,.add k b))
    | r=>r
   | .copy,[t,_],[x,y]=>copyV C s.bxs t x y
   | .clear,[t],[x]=>clearV C s.bxs t x
   | .min,_,vs=>match minV vs with
    | some v=>ok v
    | none=>none
   | .max,_,vs=>match maxV vs with
    | some v=>ok v
    | none=>none
   | _,_,_=>none
  | none=>none
 | _=>none
end Go.V
namespace Go.V
inductive Dyn where
 | win (b:Nat)
 | wino (b:Nat)
@[reducible] def Dyn.den:Dyn→Type
 | .win _=>Nat
 | .wino _=>Nat × Nat
def Dyn.av:(k:Dyn)→k.den→AV
 | .win b,n=>.row b (.part 0 n false)
 | .wino b,x=>.row b (.part x.1 x.2 false)
def Dyn.of (bx:Bxs):(k:Dyn)→AV→Option k.den
 | .win b,.row c .whole=>bif Nat.beq c b then (match find bx b with | some (.row _ _ l)=>some l.length | _=>none) else none
 | .win b,.row c (.part 0 n _)=>bif Nat.beq c b then some n else none
 | .wino b,.row c (.part o n _)=>bif Nat.beq c b then some (o,n) else none
 | _,_=>none
inductive Sh where
 | ty (T:Ty)
 | cst (v:AV)
 | dyn (k:Dyn)
inductive BSh where
 | var (gs:List Sh)
 | row (T:Ty) (fz:Bool)
 | map (K V:Ty)
 | loop (busy:Bool) (f id:Nat) (env:List (Nat × Sh))
structure Ann where
 env:List (Nat × Sh)
 stk:List (List (Nat × Sh)):=[]
 bxs:List (Nat × BSh):=[]
@[reducible] def shDen:List Sh→Type
 | []=>Unit
 | .ty T :: l=>T.den × shDen l
 | .cst _ :: l=>shDen l
 | .dyn k :: l=>k.den × shDen l
@[reducible] def envDen:List (Nat × Sh)→Type
 | []=>Unit
 | (_,.ty T) :: l=>T.den × envDen l
 | (_,.cst _) :: l=>envDen l
 | (_,.dyn k) :: l=>k.den × envDen l
@[reducible] def stkDen:List (List (Nat × Sh))→Type
 | []=>Unit
 | e :: l=>envDen e × stkDen l
@[reducible] def bxsDen:List (Nat × BSh)→Type
 | []=>Unit
 | (_,.var gs) :: l=>shDen gs × bxsDen l
 | (_,.row T _) :: l=>List T.den × bxsDen l
 | (_,.map K V) :: l=>List (K.den × V.den) × bxsDen l
 | (_,.loop _ _ _ e) :: l=>envDen e × bxsDen l
@[reducible] def Ann.den (A:Ann):Type:=envDen A.env × stkDen A.stk × bxsDen A.bxs
def encSh:(l:List Sh)→shDen l→List AV
 | [],_=>[]
 | .ty T :: l,x=>.val T x.1 :: encSh l x.2
 | .cst v :: l,x=>v :: encSh l x
 | .dyn k :: l,x=>k.av x.1 :: encSh l x.2
def encEnv:(l:List (Nat × Sh))→envDen l→Env
 | [],_=>[]
 | (n,.ty T) :: l,x=>(n,T.av x.1) :: encEnv l x.2
 | (n,.cst v) :: l,x=>(n,v) :: encEnv l x
 | (n,.dyn k) :: l,x=>(n,k.av x.1) :: encEnv l x.2
def encStk:(l:List (List (Nat × Sh)))→stkDen l→List Env
 | [],_=>[]
 | e :: l,x=>encEnv e x.1 :: encStk l x.2
def encBxs:(l:List (Nat × BSh))→bxsDen l→Bxs
 | [],_=>[]
 | (n,.var gs) :: l,x=>(n,.var (encSh gs x.1)) :: encBxs l x.2
 | (n,.row T fz) :: l,x=>(n,.row T fz x.1) :: encBxs l x.2
 | (n,.map K V) :: l,x=>(n,.map K V x.1) :: encBxs l x.2
 | (n,.loop u f i e) :: l,x=>(n,.loop u f i (encEnv e x.1)) :: encBxs l x.2
def Ann.enc (A:Ann) (x:A.den):St:={ env:=encEnv A.env x.1,stk:=encStk A.stk x.2.1,bxs:=encBxs A.bxs x.2.2 }
def Win.same:Win→Win→Bool
 | .whole,.whole=>true
 | _,_=>false
def capSame:AV→AV→Bool
 | .ptr b o [],.ptr c p []=>Nat.beq b c && Nat.beq o p
 | _,_=>false
def capsSame:List AV→List AV→Bool
 | [],[]=>true
 | a :: l,b :: m=>capSame a b && capsSame l m
 | _,_=>false
def AV.same (a b:AV):Bool :=
 match a,b with
 | .nils,.nils=>true
 | .nilp,.nilp=>true
 | .nilf,.nilf=>true
 | .nili,.nili=>true
 | .junk,.junk=>true
 | .ptr b o [],.ptr c p []=>Nat.beq b c && Nat.beq o p
 | .row b .whole,.row c .whole=>Nat.beq b c
 | .fn f l,.fn g m=>Nat.beq f g && capsSame l m
 | .tup [],.tup []=>true
 | .tup (.fn f l :: us),.tup (.fn g m :: vs)=>Nat.beq f g && (capsSame l m && capsSame us vs)
 | .yld b,.yld c=>Nat.beq b c
 | .mp b,.mp c=>Nat.beq b c
 | _,_=>false
section
variable {R:Type}
def frzB (bx:Bxs) (b:Nat):Bxs :=
 match find bx b with
 | some (.row T false l)=>setB bx b (.row T true l)
 | _=>bx
mutual
def frz (bx:Bxs):AV→Bxs
 | .row b _=>frzB bx b
 | .agg gs=>frzL bx gs
 | _=>bx
def frzL (bx:Bxs):List AV→Bxs
 | []=>bx
 | g :: gs=>frzL (frz bx g) gs
end
def tyVals (env:Env):List (Nat × Sh)→List AV
 | []=>[]
 | (n,.ty _) :: l=>match find env n with
  | some v=>v :: tyVals env l
  | none=>tyVals env l
 | (_,.cst _) :: l=>tyVals env l
 | (_,.dyn _) :: l=>tyVals env l
def tyValsS:List Env→List (List (Nat × Sh))→List AV
 | e :: s,l :: r=>tyVals e l++tyValsS s r
 | _,_=>[]
def tyGs:List Sh→List AV→List AV
 | .ty _ :: l,v :: vs=>v :: tyGs l vs
 | .cst _ :: l,_ :: vs=>tyGs l vs
 | .dyn _ :: l,_ :: vs=>tyGs l vs
 | _,_=>[]
def tyValsB (bx:Bxs):List (Nat × BSh)→List AV
 | []=>[]
 | (n,.var gs) :: l=>match find bx n with
  | some (.var vs)=>tyGs gs vs++tyValsB bx l
  | _=>tyValsB bx l
 | (_,.row _ _) :: l=>tyValsB bx l
 | (_,.map _ _) :: l=>tyValsB bx l
 | (n,.loop _ _ _ e) :: l=>match find bx n with
  | some (.loop _ _ _ env)=>tyVals env e++tyValsB bx l
  | _=>tyValsB bx l
def dec1 (bx:Bxs) (T:Ty) (v:AV) (K:T.den→Option R):Option R :=
 match conv bx T v with
 | some x=>K x
 | none=>none
def decSh (bx:Bxs):(l:List Sh)→List AV→(shDen l→Option R)→Option R
 | [],[],K=>K ()
 | .ty T :: l,v :: vs,K=>dec1 bx T v fun x=>decSh bx l vs fun y=>K (x,y)
 | .cst c :: l,v :: vs,K=>bif v.same c then decSh bx l vs K else none
 | .dyn k :: l,v :: vs,K=>match k.of bx v with
  | some x=>decSh bx l vs fun y=>K (x,y)
  | none=>none
 | _,_,_=>none
def decEnv (bx:Bxs) (env:Env):(l:List (Nat × Sh))→(envDen l→Option R)→Option R
 | [],K=>K ()
 | (n,.ty T) :: l,K=>match find env n with
  | some v=>match norm bx T v with
   | some x=>decEnv bx env l fun y=>K (x,y)
   | none=>none
  | none=>none
 | (n,.cst c) :: l,K=>match find env n with
  | some v=>bif v.same c then decEnv bx env l K else none
  | none=>none
 | (n,.dyn k) :: l,K=>match find env n with
  | some v=>match k.of bx v with
   | some x=>decEnv bx env l fun y=>K (x,y)
   | none=>none
  | none=>none
def decStk (bx:Bxs):List Env→(l:List (List (Nat × Sh)))→(stkDen l→Option R)→Option R
 | [],[],K=>K ()
 | env :: stk,e :: l,K=>decEnv bx env e fun x=>decStk bx stk l fun y=>K (x,y)
 | _,_,_=>none
def decRow (T:Ty) (fz:Bool) (b:Box) (K:List T.den→Option R):Option R :=
 match b with
 | .row S f l=>if h:S = T then (bif (f == fz) then K (h ▸ l) else none) else none
 | _=>none
def decMap (K V:Ty) (b:Box) (k:List (K.den × V.den)→Option R):Option R :=
 match b.toMap with
 | some ⟨K',V',l⟩=>if h:K' = K∧V' = V then k (h.1 ▸ h.2 ▸ l) else none
 | none=>none
def decBxs (bx:Bxs):(l:List (Nat × BSh))→(bxsDen l→Option R)→Option R
 | [],K=>K ()
 | (n,.var gs) :: l,K=>match find bx n with
  | some (.var vs)=>decSh bx gs vs fun x=>decBxs bx l fun y=>K (x,y)
  | _=>none
 | (n,.row T fz) :: l,K=>match find bx n with
  | some b=>decRow T fz b fun x=>decBxs bx l fun y=>K (x,y)
  | none=>none
 | (n,.map S V) :: l,K=>match find bx n with
  | some b=>decMap S V b fun x=>decBxs bx l fun y=>K (x,y)
  | none=>none
 | (n,.loop u f i e) :: l,K=>match find bx n with
  | some (.loop u' f' i' env)=>bif (u' == u) && (Nat.beq f' f && Nat.beq i' i) then decEnv bx env e fun x=>decBxs bx l fun y=>K (x,y) else none
  | _=>none
def Ann.dec (A:Ann) (s:St) (K:A.den→Option R):Option R :=
 let bx:=frzL s.bxs (tyVals s.env A.env++tyValsS s.stk A.stk++tyValsB s.bxs A.bxs)
 decEnv bx s.env A.env fun x=>decStk bx s.stk A.stk fun y=>decBxs bx A.bxs fun z=>K (x,y,z)
end
inductive Thaw where
 | slot (n b:Nat) (T:Ty)
 | cell (k i b:Nat) (T:Ty)
def thawV (b:Nat) (T:Ty):AV→Option Box
 | .nils=>some (.row T false [])
 | .full S l=>if h:S = T then some (.row T true (h ▸ l)) else none
 | _=>none
def thaw1 (s:St):Thaw→Option St
 | .slot n b T=>match find s.env n with
  | some (.row c w)=>bif Nat.beq c b then (match w with | .whole=>some s | _=>none) else none
  | some v=>match thawV b T v,find s.bxs b with
   | some bx,none=>some { s with env:=(n,.row b .whole) :: s.env,bxs:=(b,bx) :: s.bxs }
   | _,_=>none
  | none=>none
 | .cell k i b T=>match find s.bxs k with
  | some (.var gs)=>match gs[i]? with
   | some (.row c w)=>bif Nat.beq c b then (match w with | .whole=>some s | _=>none) else none
   | some v=>match thawV b T v,find s.bxs b with
    | some bx,none=>some { s with bxs:=(b,bx) :: setB s.bxs k (.var (gs.set i (.row b .whole))) }
    | _,_=>none
   | none=>none
  | _=>none
def thawAll:List Thaw→St→Option St
 | [],s=>some s
 | t :: l,s=>match thaw1 s t with
  | some s=>thawAll l s
  | none=>none
inductive PV where
 | int (k:IntKind) (n:Int)
 | emp
 deriving DecidableEq
structure Pan where
 t:Nat
 v:PV
 deriving DecidableEq
def PV.av:PV→AV
 | .int k n=>.val (.int k) n
 | .emp=>.agg []
def Pan.av (p:Pan):AV:=.iface p.t p.v.av
def panOf:AV→Option Pan
 | .iface t (.val (.int k) n)=>some ⟨t,.int k n⟩
 | .iface t (.agg [])=>some ⟨t,.emp⟩
 | _=>none
inductive Ex where
 | normal | exit (id:Nat) | ret | pan (p:Pan)
 deriving DecidableEq
@[reducible] def outDen:List (Ex × Ann)→Type
 | []=>Empty
 | [(_,A)]=>A.den
 | (_,A) :: l=>A.den ⊕ outDen l
section
variable {R:Type}
def outK (K:Ex→St→Option R):(l:List (Ex × Ann))→outDen l→Option R
 | [],o=>nomatch o
 | [(e,A)],o=>K e (A.enc o)
 | (e,A) :: b :: l,o=>Sum.elim (fun x=>K e (A.enc x)) (fun y=>outK K (b :: l) y) o
end
def decOut (e:Ex) (s:St):(l:List (Ex × Ann))→Option (outDen l)
 | []=>none
 | [(f,A)]=>if e = f then A.dec s some else none
 | (f,A) :: b :: l=>if e = f then A.dec s (fun x=>some (.inl x)) else (decOut e s (b :: l)).map .inr
structure LSpec where
 thaws:List Thaw:=[]
 head:Ann
 outs:List (Ex × Ann)
 fn:head.den→Option (outDen outs)
@[reducible] def tysDen:List Ty→Type
 | []=>Unit
 | T :: l=>T.den × tysDen l
def tysAV:(l:List Ty)→tysDen l→List AV
 | [],_=>[]
 | T :: l,x=>T.av x.1 :: tysAV l x.2
def resAV:(l:List Ty)→tysDen l→AV
 | [T],x=>T.av x.1
 | l,x=>.tup (tysAV l x)
structure PSpec where
 args:List Ty
 res:List Ty
 fn:tysDen args→Option (tysDen res)
def scalar:Ty→Bool
 | .int _ | .bool | .str | .unit=>true
 | .sl _=>false
 | .pair a b=>scalar a && scalar b
 | .arr _ e=>scalar e
def frzKeys:Bxs→Bxs→Bxs
 | [],bx=>bx
 | (k,_) :: l,bx=>frzKeys l (frzB bx k)
def frzAll (bx:Bxs):Bxs:=frzKeys bx bx
section
variable {R:Type}
def argsK (bx:Bxs):(l:List Ty)→List AV→(tysDen l→Option R)→Option R
 | [],[],K=>K ()
 | T :: l,v :: vs,K=>match norm bx T v with
  | some x=>argsK bx l vs fun y=>K (x,y)
  | none=>none
 | _,_,_=>none
end
structure Key where
 d:Nat
 base:Nat
 f:Nat
 id:Nat
def Key.beq (a b:Key):Bool:=Nat.beq a.d b.d && Nat.beq a.base b.base && Nat.beq a.f b.f && Nat.beq a.id b.id
structure CSpec where
 thaws:List Thaw:=[]
 args:List (Nat × Sh)
 ins:List (Nat × BSh)
 res:List Sh
 outs:List (Nat × BSh)
 fn:envDen args × bxsDen ins→Option (shDen res × bxsDen outs)
structure RSpec where
 args:List Ty
 T:Ty
 fz:Bool
 fn:tysDen args→Option (List T.den)
structure ISpec where
 T:Ty
 rest:List AV
 fn:List T.den→Option (List T.den)
structure Env0 where
 C:Cfg
 P:List (Nat × PSpec)
 L:List (Key × LSpec)
 F:List (Nat × Func)
 S:List (Nat × CSpec):=[]
 R:List (Nat × RSpec):=[]
 I:List (Nat × ISpec):=[]
 fuel:Nat:=0
 tot:List (Nat × List Nat):=[]
def Env0.totOf (E:Env0) (f:Nat):List Nat:=(find E.tot f).getD []
def findL {α:Type}:List (Key × α)→Key→Option α
 | [],_=>none
 | (k,v) :: l,n=>bif k.beq n then some v else findL l n
def firstRegion:Code→Nat
 | .region id _ _=>id
 | .seq a _=>firstRegion a
 | .block _ c=>firstRegion c
 | .loop c=>firstRegion c
 | .scope c=>firstRegion c
 | _=>0
def rid (a b:Code):Nat :=
 match firstRegion a with
 | 0=>firstRegion b
 | n=>n
def loopKey (base:Nat) (a b:Code):Nat:=base + 900 + rid a b % 100
structure LCode where
 ps:List Nat
 assign:Code
 body:Code
 n:Nat
def rangesOf (n:Nat):Code→List (Nat × LCode)
 | .seq a b=>rangesOf n a++rangesOf n b
 | .cond _ a b=>rangesOf n a++rangesOf n b
 | .block _ c=>rangesOf n c
 | .loop c=>rangesOf n c
 | .rangeFunc _ ps a b=>[(rid a b,⟨ps.toList,a,b,n⟩)]
 | _=>[]
def noDefer (o:Oper):Bool :=
 match o.op with
 | .defer _=>false
 | _=>true
def noRange (tot:List Nat):Code→Bool
 | .region id ops draw=>ops.toList.all noDefer && (!draw || !tot.contains id)
 | .seq a b=>noRange tot a && noRange tot b
 | .cond _ a b=>noRange tot a && noRange tot b
 | .block _ c=>noRange tot c
 | .loop c=>noRange tot c
 | .rangeFunc ..=>false
 | _=>true
inductive Callee where
 | fn (f:Nat)
 | yld (b:Nat)
def putE (d:Option Tmp) (v:AV) (env:Env):Env :=
 match d with
 | some d=>(d,v) :: env
 | none=>env
def resOf (C:Cfg) (s:St):List ResultVar→Option (List AV)
 | []=>some []
 | .tmp t :: l=>match find s.env t with
  | some v=>bif v.okGs then (resOf C s l).map (v :: ·) else none
  | none=>none
 | .cell a t :: l=>match find s.env a with
  | some p=>match loadV C s.bxs t p with
   | some (_,v,_)=>bif v.okGs then (resOf C s l).map (v :: ·) else none
   | none=>none
  | none=>none
def tup1:List AV→AV
 | [v]=>v
 | l=>.tup l
def params:Nat→List AV→Env
 | _,[]=>[]
 | n,v :: l=>(n,v) :: params (n + 1) l
def encV:(l:List Sh)→shDen l→List AV
 | [],_=>[]
 | .ty T :: l,x=>T.av x.1 :: encV l x.2
 | .cst v :: l,x=>v :: encV l x
 | .dyn k :: l,x=>k.av x.1 :: encV l x.2
def rowKeys:List (Nat × BSh)→List Nat
 | []=>[]
 | (k,.row _ _) :: l=>k :: rowKeys l
 | (_,.var _) :: l=>rowKeys l
 | (_,.map _ _) :: l=>rowKeys l
 | (_,.loop _ _ _ _) :: l=>rowKeys l
def varPtrs:Nat→List (Nat × BSh)→Env
 | _,[]=>[]
 | n,(k,.var _) :: l=>(n,.ptr k 0 []) :: varPtrs (n + 1) l
 | n,(_,.row _ _) :: l=>varPtrs n l
 | n,(_,.map _ _) :: l=>varPtrs n l
 | n,(_,.loop _ _ _ _) :: l=>varPtrs n l
def staleAll:List Nat→St→St
 | [],s=>s
 | k :: l,s=>staleAll l { env:=staleE k s.env,stk:=staleS k s.stk,bxs:=staleB k s.bxs }
def setAll:Bxs→Bxs→Bxs
 | [],b=>b
 | (k,x) :: l,b=>setB (setAll l b) k x
section
variable {R:Type} (E:Env0)
def callP (p:PSpec) (args:List AV) (s:St) (K:AV→St→Option R):Option R :=
 let bx:=bif p.res.all scalar then frzAll s.bxs else frzL s.bxs args
 argsK bx p.args args fun x=>(p.fn x).bind fun y=>K (resAV p.res y) (bif p.res.all scalar then s else { s with bxs:=frzL s.bxs args })
def callR (p:RSpec) (key:Nat) (args:List AV) (s:St) (K:AV→St→Option R):Option R :=
 match find (frzL s.bxs args) key with
 | none=>argsK (frzL s.bxs args) p.args args fun x=>(p.fn x).bind fun l=>K (.row key .whole) { s with bxs:=(key,.row p.T p.fz l) :: frzL s.bxs args }
 | some _=>none
def callS (c:CSpec) (args:List AV) (s:St) (K:AV→St→Option R):Option R :=
 match thawAll c.thaws { env:=params 0 args,stk:=s.env :: s.stk,bxs:=s.bxs } with
 | some s1 =>
  let bx:=frzL s1.bxs (tyVals s1.env c.args++tyValsB s1.bxs c.ins)
  decEnv bx s1.env c.args fun xa=>decBxs bx c.ins fun xb=>(c.fn (xa,xb)).bind fun y=>match s1.stk with
   | env :: stk =>
    let s2:=staleAll (rowKeys c.ins) { env:=env,stk:=stk,bxs:=bx }
    K (tup1 (encV c.res y.1)) { s2 with bxs:=setAll (encBxs c.outs y.2) s2.bxs }
   | []=>none
 | none=>none
def callI (p:ISpec) (args:List AV) (s:St) (K:AV→St→Option R):Option R :=
 match args with
 | .row b .whole :: rest=>bif AV.same (.tup rest) (.tup p.rest) then (match find s.bxs b with
  | some (.row T false l)=>if h:T = p.T then (p.fn (h ▸ l)).bind fun y=>K (.tup []) { s with bxs:=setB s.bxs b (.row p.T false y) } else none
  | _=>none) else none
 | _=>none
variable (inl:Nat→Callee→List AV→St→(AV→St→Option R)→(Pan→St→Option R)→Option R)
def exec1 (base:Nat) (o:Oper) (s:St) (K:AV→St→Option R) (KP:Pan→St→Option R):Option R :=
 match o.op with
 | .panic x=>match ev E.C s.env x with
  | some v=>match panOf v with
   | some p=>KP p s
   | none=>none
  | none=>none
 | .defer { callee:=.value f,args,.. }=>match ev E.C s.env f,evL E.C s.env args.toList with
  | some (.fn f caps),some vs=>bif vs.all AV.okGs then K (.tup []) { s with stk:=[(0,.tup (.fn f caps :: vs))] :: s.stk } else none
  | _,_=>none
 | .pick c a b=>match ev E.C s.env c with
  | some (.val .bool t)=>bif t then (match ev E.C s.env a with | some v=>K v s | none=>none) else (match ev E.C s.env b with | some v=>K v s | none=>none)
  | _=>none
 | .call { callee:=.value f,args,.. }=>match ev E.C s.env f,evL E.C s.env args.toList with
  | some (.fn f caps),some vs=>match caps,find E.P f with
   | [],some p=>callP p vs s K
   | caps,_=>match caps,find E.R f with
    | [],some p=>callR p (base + o.dst.getD 0) vs s K
    | caps,_=>match find E.S f with
     | some c=>callS c (vs++caps) s K
     | none=>match find E.I f with
      | some p=>callI p (vs++caps) s K
      | none=>inl (base + o.dst.getD 0) (.fn f) (vs++caps) s K KP
  | some (.yld b),some vs=>inl (base + o.dst.getD 0) (.yld b) vs s K KP
  | _,_=>none
 | _=>match execA E.C base o s with
  | some (c,v,e)=>bif c then K v (e.apply s) else none
  | none=>none
def runOps (base : Nat) (ops : Array Oper) : List Oper → St → (Ex → St → Option R) → Option R
  | [], s, K => K .normal s
  | o :: rest, s, K => match o.guard with
    | none => exec1 E inl base o s (fun v s => runOps base ops rest { s with env := putE o.dst v s.env } K) fun p s => K (.pan p) s
    | some (j, want) => match (ops[j]?).bind (·.dst) with
      | some d => match find s.env d with
        | some (.val .bool b) =>
          bif b then
            (bif want then exec1 E inl base o { s with env := (d, .val .bool true) :: s.env } (fun v s => runOps base ops rest { s with env := putE o.dst v s.env } K) fun p s => K (.pan p) s
             else runOps base ops rest { s with env := putE o.dst (.tup []) ((d, .val .bool true) :: s.env) } K)
          else
            (bif want then runOps base ops rest { s with env := putE o.dst (.tup []) ((d, .val .bool false) :: s.env) } K
             else exec1 E inl base o { s with env := (d, .val .bool false) :: s.env } (fun v s => runOps base ops rest { s with env := putE o.dst v s.env } K) fun p s => K (.pan p) s)
        | some (.tup []) => runOps base ops rest { s with env := putE o.dst (.tup []) s.env } K
        | _ => none
      | none => none
def deps (o:Oper):List Nat:=(o.after.toList.filter (Region.binds .any)).map (·.on)
def maskOf (acc:List Nat) (l:List Nat):Nat:=l.foldl (fun m j=>m ||| (1 <<< j) ||| acc.getD j 0) 0
def masks:List Oper→List Nat→List Nat
 | [],acc=>acc
 | o :: l,acc=>masks l (acc++[maskOf acc (deps o)])
def isWriter (o:Oper):Bool :=
 match o.op with
 | .move _ | .assign _ | .pick .. | .build .. | .buildSlice .. | .load .. | .nilCheck _ | .binOp .. | .unOp .. | .convert .. | .fieldAddr .. | .field .. | .indexAddr .. | .index .. | .slice .. | .extract .. | .makeFunc ..=>false
 | .call { callee:=.builtin .len,.. } | .call { callee:=.builtin .min,.. } | .call { callee:=.builtin .max,.. }=>false
 | .call { callee:=.value (.func _),.. }=>false
 | _=>true
def looks (ops : Array Oper) (o : Oper) : List Nat :=
  (o.op.operands.toList.filterMap fun | .tmp t => some t | _ => none) ++
  (match o.guard with
   | some (g, _) => ((ops[g]?).bind (·.dst)).toList
   | none => [])
def ahead (ms:List Nat) (i j:Nat):Bool:=Nat.testBit (ms.getD j 0) i
def strictAt (ops:Array Oper) (ms:List Nat) (i:Nat):Bool:=(List.range ops.size).all fun j=>Nat.beq i j || ahead ms i j || ahead ms j i
def lightKind (o:Oper):Bool:=o.guard.isNone && match o.op with
 | .alloc _ | .store ..=>true
 | .call { callee:=.builtin .append,.. }=>true
 | _=>false
def opq (ops:Array Oper) (ms:List Nat) (i:Nat) (o:Oper):Bool:=isWriter o && !(lightKind o && !strictAt ops ms i)
def pairOk (ops:Array Oper) (ms:List Nat) (i:Nat) (x:Oper) (j:Nat) (y:Oper):Bool :=
 (ahead ms i j || (!opq ops ms i x && !opq ops ms j y &&
  (match x.dst with | some d=>!(looks ops y).contains d | none=>true) && (match y.dst with | some d=>!(looks ops x).contains d | none=>true))) &&
 (match x.dst,y.dst with | some d,some e=>!Nat.beq d e | _,_=>true)
def pairsOk (ops:Array Oper) (ms:List Nat) (i:Nat) (x:Oper):Nat→List Oper→Bool
 | _,[]=>true
 | j,y :: l=>pairOk ops ms i x j y && pairsOk ops ms i x (j + 1) l
def allOk (ops:Array Oper) (ms:List Nat):Nat→List Oper→Bool
 | _,[]=>true
 | i,x :: l=>(deps x).all (fun j=>Nat.blt j i) && pairsOk ops ms i x (i + 1) l && allOk ops ms (i + 1) l
def drawOk (ops:Array Oper):Bool:=allOk ops (masks ops.toList []) 0 ops.toList
def restr (env:Env):List Nat→Env
 | []=>[]
 | t :: l=>match find env t with
  | some v=>(t,v) :: restr env l
  | none=>restr env l
def exec0 (base:Nat) (o:Oper) (s:St) (K:AV→Option R):Option R :=
 match o.op with
 | .pick c a b=>match ev E.C s.env c with
  | some (.val .bool t)=>bif t then (match ev E.C s.env a with | some v=>K v | none=>none) else (match ev E.C s.env b with | some v=>K v | none=>none)
  | _=>none
 | .call { callee:=.value f,args,.. }=>match ev E.C s.env f,evL E.C s.env args.toList with
  | some (.fn f []),some vs=>match find E.P f with
   | some p=>argsK (bif p.res.all scalar then frzAll s.bxs else s.bxs) p.args vs fun x=>(p.fn x).bind fun y=>K (resAV p.res y)
   | none=>none
  | _,_=>none
 | _=>match execA E.C base o s with
  | some (c,v,.none)=>bif c then K v else none
  | _=>none
def execG (base:Nat) (ops:Array Oper) (o:Oper) (s:St) (K:AV→St→Option R):Option R :=
 match o.guard with
 | none=>exec0 E base o { s with env:=restr s.env (looks ops o) } fun v=>K v s
 | some (j,want)=>match (ops[j]?).bind (·.dst) with
  | some d=>match find s.env d with
   | some (.val .bool b) =>
    bif b then (bif want then exec0 E base o { s with env:=restr s.env (looks ops o) } fun v=>K v { s with env:=(d,.val .bool true) :: s.env } else K (.tup []) { s with env:=(d,.val .bool true) :: s.env })
    else (bif want then K (.tup []) { s with env:=(d,.val .bool false) :: s.env } else exec0 E base o { s with env:=restr s.env (looks ops o) } fun v=>K v { s with env:=(d,.val .bool false) :: s.env })
   | some (.tup [])=>K (.tup []) s
   | _=>none
  | none=>none
def Eff.kb:Eff→Option (Nat × Box)
 | .add k b | .upd k b=>some (k,b)
 | _=>Option.none
def Eff.lightB:Eff→Bool
 | .app ..=>false
 | _=>true
def plainY:AV→Bool
 | .nils | .full .. | .val ..=>true
 | _=>false
def plainX:AV→Bool
 | .nils | .full ..=>true
 | _=>false
def AV.isRow:AV→Bool
 | .row _ _=>true
 | _=>false
def AV.noRow (v:AV):Bool:=v.gs.all fun g=>!g.isRow
def rdOf (C:Cfg) (base:Nat) (o:Oper) (env:Env):Option (List Nat) :=
 match o.guard with
 | some _=>none
 | none=>match o.op with
  | .move _ | .assign _ | .fieldAddr ..=>some []
  | .binOp .. | .unOp .. | .extract .. | .field .. | .index .. | .nilCheck _=>some []
  | .build t _=>match C.under t with
   | .st _=>some []
   | _=>none
  | .buildSlice _ _ ps=>match ps.toList with
   | []=>some []
   | _=>none
  | .alloc _=>some [base + o.dst.getD 0]
  | .indexAddr _ x _=>match ev C env x with
   | some (.row b _)=>some [b]
   | some _=>some []
   | none=>none
  | .slice _ x ..=>match ev C env x with
   | some (.row b _)=>some [b]
   | some _=>some []
   | none=>none
  | .load _ a=>match ev C env a with
   | some (.ptr b _ _)=>some [b]
   | some (.rptr b _ _)=>some [b]
   | some (.eptr _)=>some []
   | _=>none
  | .call { callee:=.builtin .append,args,.. }=>match evL C env args.toList with
   | some [x,y]=>bif plainX x && plainY y then some [base + o.dst.getD 0] else none
   | _=>none
  | .call { callee:=.value _,args,.. }=>match evL C env args.toList with
   | some vs=>bif vs.all AV.noRow then some [] else none
   | none=>none
  | _=>none
def isCallV (o:Oper):Bool :=
 match o.op with
 | .call { callee:=.value _,.. }=>true
 | _=>false
structure Note where
 i:Nat
 rd:Option (List Nat)
 ky:Option Nat
def apart (ms:List Nat) (a:Note) (k:Nat) (b:Note):Bool :=
 Nat.beq a.i b.i || ahead ms a.i b.i || ahead ms b.i a.i || ((match b.rd with | some ks=>!ks.any (Nat.beq k) | none=>false) && (match b.ky with | some j=>!Nat.beq j k | none=>true))
def logOk (ms:List Nat) (log:List Note):Bool:=log.all fun a=>match a.ky with
 | none=>true
 | some k=>log.all (apart ms a k)
def runDraw (base:Nat) (ops:Array Oper) (ms:List Nat):List Oper→Nat→List Note→St→(Ex→St→Option R)→Option R
 | [],_,log,s,K=>bif logOk ms log then K .normal s else none
 | o :: rest,i,log,s,K=>bif opq ops ms i o then (bif logOk ms log && noDefer o then runOps E inl base ops [o] s fun e s=>(match e with | .normal=>runDraw base ops ms rest (i + 1) [] s K | e=>K e s) else none)
  else bif isWriter o then
   match execA E.C base o { s with env:=restr s.env (looks ops o) } with
   | some (c,v,e)=>bif e.lightB && c then runDraw base ops ms rest (i + 1) (⟨i,rdOf E.C base o (restr s.env (looks ops o)),e.kb.map (·.1)⟩ :: log) { (e.apply s) with env:=putE o.dst v s.env } K else none
   | none=>none
  else execG E base ops o s fun v s'=>runDraw base ops ms rest (i + 1) (⟨i,rdOf E.C base o (restr s.env (looks ops o)),none⟩ :: log) { s' with env:=putE o.dst v s'.env } K
def runLoop (l:LSpec) (s:St) (K:Ex→St→Option R):Option R :=
 match thawAll l.thaws s with
 | some s=>l.head.dec s fun x=>(l.fn x).bind fun o=>outK K l.outs o
 | none=>none
def inert (o:Oper):Bool:=o.guard.isNone && match o.op with
 | .move _ | .assign _ | .nilCheck _ | .fieldAddr .. | .extract .. | .indexAddr ..=>true
 | _=>false
def isLoad (o:Oper):Bool:=o.guard.isNone && match o.op with
 | .load ..=>true
 | _=>false
def isPure (o:Oper):Bool:=o.guard.isNone && match o.op with
 | .binOp _ _ _ (.const .nilIface) _=>false
 | .binOp .. | .unOp ..=>true
 | _=>false
def soft (o:Oper):Bool:=inert o || isLoad o || isPure o
def AV.scal:AV→Bool
 | .val (.int _) _ | .val .bool _ | .val .str _=>true
 | _=>false
noncomputable def same {R:Type} (a b:Option R):Option R:=open Classical in if a = b then a else none
theorem same_self {R:Type} (a:Option R):same a a = a:=if_pos rfl
theorem same_some {R:Type} {a b:Option R} {r:R} (h:same a b = some r):a = some r∧b = some r:=by
 unfold same at h
 split at h
 ·rename_i e
  exact ⟨h,e ▸ h⟩
 ·cases h
noncomputable def allSame {R:Type} (f:Nat→Option R) (x:Option R):List Nat→Option R
 | []=>x
 | i :: l=>same x (allSame f (f i) l)
theorem allSame_some {R:Type} {f:Nat→Option R}:∀ {l:List Nat} {x:Option R} {r:R},allSame f x l = some r→x = some r∧∀ i∈l,f i = some r
 | [],_,_,h=>⟨h,fun _ hi=>nomatch hi⟩
 | i :: l,x,r,h=>by
  obtain ⟨h1,h2⟩:=same_some h
  obtain ⟨h3,h4⟩:=allSame_some h2
  refine ⟨h1,fun j hj=>?_⟩
  rcases List.mem_cons.1 hj with rfl | hj
  ·exact h3
  ·exact h4 j hj
def softNow (E:Env0) (s:St) (o:Oper):Bool:=inert o || isPure o || (isLoad o && match o.op with
 | .load _ a=>(match ev E.C s.env a with | some (.eptr _)=>true | _=>false)
 | _=>false)
def inertDsts (ops:Array Oper):List Nat:=(ops.toList.filter soft).filterMap (·.dst)
def AV.rigid:AV→Bool
 | .row _ .whole | .nils | .nilp | .nilf | .nili | .mp _ | .ptr _ _ []=>true
 | .val (.int _) _ | .val .bool _ | .val .str _=>false
 | _=>false
def stillHeld (ops:Array Oper) (i:Nat) (o:Oper) (held:List Nat):List Nat:=bif soft o then held else held.filter fun p=>!ahead (masks ops.toList []) p i
def again (E:Env0) (base:Nat) (ops:Array Oper) (s:St) (p:Nat):Bool :=
 match ops[p]? with
 | some o=>match execA E.C base o s,o.dst with
  | some (true,v,.none),some d=>match find s.env d with
   | some u=>v.rigid && v.same u
   | none=>false
  | _,_=>false
 | none=>false
def keeps (ops:Array Oper) (dst:Option Nat) (p:Nat):Bool:=match ops[p]?,dst with
 | some o,some d=>!(looks ops o).contains d && (match o.dst with | some e=>!Nat.beq e d | none=>true)
 | some _,none=>true
 | none,_=>false
def dropE (D:List Nat):Env→Env
 | []=>[]
 | (n,v) :: l=>bif D.contains n then dropE D l else (n,v) :: dropE D l
abbrev Hid:=Option (Nat × Nat × List AV)
def unhide (h:Nat × Nat × List AV) (s:St):Option St:=match find s.bxs h.2.1 with
 | none=>some { s with env:=(h.1,.ptr h.2.1 0 []) :: s.env,bxs:=(h.2.1,.var h.2.2) :: s.bxs }
 | some _=>none
def hideNow (C:Cfg) (base:Nat) (o:Oper):Hid:=match o.guard,o.op,o.dst with
 | none,.alloc t,some d=>(match C.zero t with | some gs=>some (d,base + d,gs) | none=>none)
 | _,_,_=>none
def hideOf (C:Cfg) (base:Nat) (o:Oper) (h:Hid) (many:Bool):Hid:=bif many then (match h with | some _=>none | none=>hideNow C base o) else none
def clearOf (h:Hid) (d:Option Nat):Bool:=match h,d with
 | some h,some d=>!Nat.beq h.1 d
 | _,_=>true
def hidDue (ops:Array Oper) (h:Hid) (l:List Nat):Bool:=match h with
 | some h=>l.any fun j=>match ops[j]? with | some o=>(looks ops o).contains h.1 | none=>false
 | none=>false
def hardTot (base:Nat) (ops:Array Oper) (listed:Array Bool) (held:List Nat) (hid:Hid) (many:Bool) (s:St) (K:Ex→St→Option R) (go:Array Bool→List Nat→Hid→St→Option R) (i:Nat):Option R :=
 match ops[i]? with
 | some o=>bif noDefer o && held.all (keeps ops o.dst) && clearOf hid o.dst then (match hideOf E.C base o hid many with
  | some h=>bif (stillHeld ops i o held).all (again E base ops { s with env:=putE o.dst .junk s.env }) then go (listed.setIfInBounds i true) (stillHeld ops i o held) (some h) { s with env:=putE o.dst .junk s.env } else none
  | none=>runOps E inl base ops [o] s fun e s=>(match e with
   | .normal=>bif (stillHeld ops i o held).all (again E base ops s) then go (listed.setIfInBounds i true) (stillHeld ops i o held) hid s else none
   | e=>K e { s with env:=dropE (inertDsts ops) s.env })) else none
 | none=>none
noncomputable def runTot (base:Nat) (ops:Array Oper):Nat→Array Bool→List Nat→Hid→St→(Ex→St→Option R)→Option R
 | 0,_,_,_,_,_=>none
 | n + 1,listed,held,hid,s,K=>match Region.ready .any ops listed with
  | []=>(match hid with
   | none=>K .normal s
   | some h=>(match unhide h s with | some s=>K .normal s | none=>none))
  | i :: l=>bif hidDue ops hid (i :: l) then (match hid with
    | some h=>(match unhide h s with | some s=>runTot base ops n listed held none s K | none=>none)
    | none=>none) else
   match (i :: l).find? (fun j=>Region.free .any ops listed j && (match ops[j]? with | some o=>softNow E s o | none=>false)) with
   | some j=>match ops[j]? with
    | some o=>match execA E.C base o s with
     | some (c,v,.none)=>bif held.all (keeps ops o.dst) && (!isPure o || v.scal) && (clearOf hid o.dst && c) then runTot base ops n (listed.setIfInBounds j true) held hid { s with env:=putE o.dst v s.env } K else none
     | _=>none
    | none=>none
   | none=>match l with
    | []=>hardTot E inl base ops listed held hid false s K (fun a b h c=>runTot base ops n a b h c K) i
    | _=>match (i :: l).find? (fun j=>Region.free .any ops listed j && (match ops[j]? with | some o=>isLoad o && (match execA E.C base o s with | some (_,v,_)=>v.rigid | none=>false) | none=>false)) with
     | some j=>match ops[j]? with
      | some o=>match execA E.C base o s,o.dst with
       | some (c,v,.none),some d=>bif (clearOf hid o.dst && c) && v.rigid && held.all (keeps ops o.dst) && !(looks ops o).contains d then runTot base ops n (listed.setIfInBounds j true) (j :: held) hid { s with env:=putE o.dst v s.env } K else none
       | _,_=>none
      | none=>none
     | none=>allSame (hardTot E inl base ops listed held hid true s K (fun a b h c=>runTot base ops n a b h c K)) (hardTot E inl base ops listed held hid true s K (fun a b h c=>runTot base ops n a b h c K) i) l
def unroll (body:St→(Ex→St→Option R)→Option R):Nat→St→(Ex→St→Option R)→Option R
 | 0,_,_=>none
 | n + 1,s,K=>body s fun e s=>match e with
  | .normal=>unroll body n s K
  | e=>K e s
def isYld (env:Env) (b:Nat):Bool :=
 match find env 0 with
 | some (.yld c)=>Nat.beq c b
 | _=>false
noncomputable def runC (d f base:Nat):Code→St→(Ex→St→Option R)→Option R
 | .skip,s,K=>K .normal s
 | .region id ops draw,s,K=>bif draw then (bif (E.totOf f).contains id then runTot E inl base ops (ops.size + 3) (Array.replicate ops.size false) [] none s K else runDraw E inl base ops (masks ops.toList []) ops.toList 0 [] s K) else runOps E inl base ops ops.toList s K
 | .seq a b,s,K=>runC d f base a s fun e s=>match e with
  | .normal=>runC d f base b s K
  | e=>K e s
 | .cond c a b,s,K=>match ev E.C s.env c with
  | some (.val .bool t)=>bif t then runC d f base a s K else runC d f base b s K
  | _=>none
 | .block id c,s,K=>runC d f base c s fun e s=>match e with
  | .exit i=>bif Nat.beq i id then K .normal s else K (.exit i) s
  | e=>K e s
 | .loop c,s,K=>match findL E.L ⟨d,base,f,firstRegion c⟩ with
  | some l=>runLoop l s K
  | none=>unroll (fun s K=>runC d f base c s K) E.fuel s K
 | .exit id,s,K=>K (.exit id) s
 | .ret,s,K=>K .ret s
 | .rangeFunc q _ a b,s,K=>match ev E.C s.env q with
  | some (.fn f' caps)=>match find s.bxs (loopKey base a b) with
   | none=>inl (loopKey base a b) (.fn f') (.yld (loopKey base a b) :: caps) { env:=[(0,.yld (loopKey base a b))],stk:=s.env :: s.stk,bxs:=(loopKey base a b,.loop false f (rid a b) s.env) :: s.bxs } (fun _ s' =>
    match s'.stk,find s'.bxs (loopKey base a b) with
    | env :: stk,some (.loop false _ _ _)=>bif isYld s'.env (loopKey base a b) then K .normal { env:=env,stk:=stk,bxs:=setB s'.bxs (loopKey base a b) .dead } else none
    | _,_=>none) fun _ _=>none
   | some _=>none
  | _=>none
 | _,_,_=>none
end
def putL:List Nat→List AV→Env→Env
 | p :: ps,v :: vs,env=>putL ps vs ((p,v) :: env)
 | _,_,env=>env
inductive Md where
 | ret | pan (p:Pan) | rcv (p:Pan)
 deriving DecidableEq
def runOpsD {R:Type} (E:Env0) (base:Nat):List Oper→Md→St→(Md→St→Option R)→Option R
 | [],m,s,K=>K m s
 | o :: rest,m,s,K=>match o.guard with
  | some _=>none
  | none=>match o.op with
   | .call { callee:=.builtin .recover,.. }=>match m with
    | .pan p=>runOpsD E base rest (.rcv p) { s with env:=putE o.dst p.av s.env } K
    | m=>runOpsD E base rest m { s with env:=putE o.dst .nili s.env } K
   | _=>match execA E.C base o s with
    | some (c,v,e)=>bif c then runOpsD E base rest m { (e.apply s) with env:=putE o.dst v (e.apply s).env } K else none
    | none=>none
def hasRecover (ops:Array Oper):Bool:=ops.toList.any fun o=>match o.op with
 | .call { callee:=.builtin .recover,.. }=>true
 | _=>false
noncomputable def runCD {R:Type} (E:Env0) (inl:Nat→Callee→List AV→St→(AV→St→Option R)→(Pan→St→Option R)→Option R) (d f base:Nat):Code→Md→St→(Ex→Md→St→Option R)→Option R
 | .seq a b,m,s,K=>runCD E inl d f base a m s fun e m s=>match e with
  | .normal=>runCD E inl d f base b m s K
  | e=>K e m s
 | .cond c a b,m,s,K=>match ev E.C s.env c with
  | some (.val .bool t)=>bif t then runCD E inl d f base a m s K else runCD E inl d f base b m s K
  | _=>none
 | .region id ops draw,m,s,K=>bif hasRecover ops && !draw then runOpsD E base ops.toList m s fun m s=>K .normal m s else bif noRange (E.totOf f) (.region id ops draw) then runC E inl d f base (.region id ops draw) s fun e s'=>bif Nat.beq s'.stk.length s.stk.length then K e m s' else none else none
 | c,m,s,K=>bif noRange (E.totOf f) c then runC E inl d f base c s fun e s'=>bif Nat.beq s'.stk.length s.stk.length then K e m s' else none else none
noncomputable def leaveC {R:Type} (E:Env0) (inl:Nat→Callee→List AV→St→(AV→St→Option R)→(Pan→St→Option R)→Option R) (d base:Nat) (K:Md→St→Option R):Nat→Md→St→Option R
 | 0,m,s=>K m s
 | n + 1,m,s=>match s.stk with
  | dfr :: stk=>match find dfr 0 with
   | some (.tup (.fn f caps :: vs))=>match find E.F f with
    | some fn=>match fn.body with
     | some c=>runCD E inl d f (base * 1000 + 500 + n) c m { env:=params 0 (vs++caps),stk:=s.env :: stk,bxs:=s.bxs } fun e m s'=>match e,s'.stk,m with
      | .exit _,_,_=>none
      | .pan p,env :: stk,.ret=>leaveC E inl d base K n (.pan p) { env:=env,stk:=stk,bxs:=s'.bxs }
      | .pan _,_,_=>none
      | _,env :: stk,m=>match resOf E.C s' fn.results.toList with
       | some _=>leaveC E inl d base K n (match m with | .rcv _=>.ret | m=>m) { env:=env,stk:=stk,bxs:=s'.bxs }
       | none=>none
      | _,[],_=>none
     | none=>none
    | none=>none
   | _=>none
  | []=>none
def mdOf:Ex→Option Md
 | .exit _=>none
 | .pan p=>some (.pan p)
 | _=>some .ret
noncomputable def inlineC {R:Type} (E:Env0):Nat→Nat→Callee→List AV→St→(AV→St→Option R)→(Pan→St→Option R)→Option R
 | 0,_,_,_,_,_,_=>none
 | d + 1,base,.fn f,args,s,K,KP=>match find E.F f with
  | some fn=>match fn.body with
   | some c=>runC E (inlineC E d) d f (base * 1000) c { env:=params 0 args,stk:=s.env :: s.stk,bxs:=s.bxs } fun e s' =>
    match mdOf e with
    | none=>none
    | some m=>leaveC E (inlineC E d) d base (fun m s'=>match m,s'.stk with
     | .pan p,env :: stk=>KP p { env:=env,stk:=stk,bxs:=s'.bxs }
     | .ret,env :: stk=>match resOf E.C s' fn.results.toList with
      | some vs=>K (tup1 vs) { env:=env,stk:=stk,bxs:=s'.bxs }
      | none=>none
     | _,_=>none) (s'.stk.length - (s.stk.length + 1)) m s'
   | none=>none
  | none=>none
 | d + 1,base,.yld b,args,s,K,_=>match find s.bxs b with
  | some (.loop false f id env)=>match find E.F f with
   | some fn=>match fn.body with
    | some c=>match find (rangesOf fn.ntmps c) id with
     | some cd=>bif Nat.beq cd.ps.length args.length && (noRange (E.totOf f) cd.assign && noRange (E.totOf f) cd.body) then
       runC E (inlineC E d) d f (base * 1000) cd.assign { env:=putL cd.ps args env,stk:=[(0,.yld b)] :: s.env :: s.stk,bxs:=s.bxs } fun e s1=>match e,s1.stk,find s1.bxs b with
        | .normal,e0 :: _,some (.loop false f1 i1 env1)=>bif isYld e0 b && (Nat.beq f1 f && Nat.beq i1 id) then
          runC E (inlineC E d) d f (base * 1000) cd.body { s1 with bxs:=setB s1.bxs b (.loop true f id env1) } fun e s2=>match e,s2.stk,find s2.bxs b with
           | .normal,e1 :: env0 :: stk,some (.loop true f2 i2 env2)=>bif isYld e1 b && (Nat.beq f2 f && Nat.beq i2 id) then K (.val .bool true) { env:=env0,stk:=stk,bxs:=setB s2.bxs b (.loop false f id env2) } else none
           | _,_,_=>none
         else none
        | _,_,_=>none
      else none
     | none=>none
    | none=>none
   | none=>none
  | _=>none
def depth:Nat:=12
def resK {R:Type} (bx:Bxs):(l:List Ty)→List AV→(tysDen l→Option R)→Option R
 | [],[],K=>K ()
 | T :: l,v :: vs,K=>match norm (frzAll bx) T v with
  | some x=>resK bx l vs fun y=>K (x,y)
  | none=>none
 | _,_,_=>none
noncomputable def runF (E:Env0) (f:Nat) (fn:Func) (c:Code) (args res:List Ty) (x:tysDen args):Option (tysDen res) :=
 runC E (inlineC E depth) depth f 0 c { env:=params 0 (tysAV args x),stk:=[],bxs:=[] } fun e s =>
  match mdOf e with
  | none=>none
  | some m=>leaveC E (inlineC E depth) depth 0 (fun m s=>match m with
   | .ret=>match resOf E.C s fn.results.toList with
    | some vs=>resK s.bxs res vs some
    | none=>none
   | _=>none) s.stk.length m s
def resRow (bx:Bxs) (T:Ty) (fz:Bool):AV→Option (List T.den)
 | .nils=>some []
 | .full S l=>bif fz then (if h:S = T then some (h ▸ l) else none) else none
 | .row b .whole=>match find bx b with
  | some (.row S f l)=>bif f == fz then (if h:S = T then some (h ▸ l) else none) else none
  | _=>none
 | .row b (.part off n full)=>match find bx b with
  | some (.row S false l)=>bif fz then none else (if h:S = T then some (h ▸ Win.app (.part off n full) l) else none)
  | _=>none
 | _=>none
noncomputable def runR (E:Env0) (f:Nat) (fn:Func) (c:Code) (vs:List AV) (T:Ty) (fz:Bool):Option (List T.den) :=
 runC E (inlineC E depth) depth f 0 c { env:=params 0 vs,stk:=[],bxs:=[] } fun e s =>
  match mdOf e with
  | none=>none
  | some m=>leaveC E (inlineC E depth) depth 0 (fun m s=>match m with
   | .ret=>match resOf E.C s fn.results.toList with
    | some [v]=>resRow (bif fz then frzL s.bxs [v] else s.bxs) T fz v
    | _=>none
   | _=>none) s.stk.length m s
section
variable {R:Type}
def decV (bx:Bxs):(l:List Sh)→List AV→(shDen l→Option R)→Option R
 | [],[],K=>K ()
 | .ty T :: l,v :: vs,K=>match norm bx T v with
  | some x=>decV bx l vs fun y=>K (x,y)
  | none=>none
 | .cst c :: l,v :: vs,K=>bif v.same c then decV bx l vs K else none
 | .dyn k :: l,v :: vs,K=>match k.of bx v with
  | some x=>decV bx l vs fun y=>K (x,y)
  | none=>none
 | _,_,_=>none
end
def ptrsOk (env:Env):Env→Bool
 | []=>true
 | (n,v) :: l=>(match find env n with | some u=>u.same v | none=>false) && ptrsOk env l
noncomputable def runS (E:Env0) (f:Nat) (fn:Func) (c:Code) (p:CSpec) (x:envDen p.args × bxsDen p.ins):Option (shDen p.res × bxsDen p.outs) :=
 runC E (inlineC E depth) depth f 0 c { env:=encEnv p.args x.1,stk:=[varPtrs 0 p.ins],bxs:=encBxs p.ins x.2 } fun e s =>
  match mdOf e with
  | none=>none
  | some m=>leaveC E (inlineC E depth) depth 0 (fun m s=>match m with
   | .ret=>match resOf E.C s fn.results.toList with
    | some vs =>
     let bx:=frzL s.bxs (tyGs p.res vs++tyValsB s.bxs p.outs)
     bif (match s.stk with | [e]=>ptrsOk e (varPtrs 0 p.ins) | _=>false) then decV bx p.res vs fun ya=>decBxs bx p.outs fun yb=>some (ya,yb) else none
    | none=>none
   | _=>none) (s.stk.length - 1) m s
noncomputable def runB (E:Env0) (d f base:Nat) (c:Code) (l:LSpec) (again:l.head.den→Option (outDen l.outs)) (x:l.head.den):Option (outDen l.outs) :=
 runC E (inlineC E d) d f base c (l.head.enc x) fun e s =>
  match e with
  | .normal=>l.head.dec s again
  | e=>decOut e s l.outs
def loopsOf:Code→List Code
 | .seq a b=>loopsOf a++loopsOf b
 | .cond _ a b=>loopsOf a++loopsOf b
 | .block _ c=>loopsOf c
 | .loop c=>c :: loopsOf c
 | .rangeFunc _ _ a b=>loopsOf a++loopsOf b
 | _=>[]
def findLoop:List Code→Nat→Code
 | [],_=>.skip
 | c :: l,id=>bif Nat.beq (firstRegion c) id then c else findLoop l id
def loopAt (c:Code) (id:Nat):Code:=findLoop (loopsOf c) id
def idsOk:List Nat→Bool
 | []=>true
 | i :: l=>!l.contains i && idsOk l
def dstOk (n:Nat) (o:Oper):Bool :=
 match o.dst with
 | some d=>Nat.blt d n
 | none=>true
def dstsOk (n:Nat):Code→Bool
 | .region _ ops _=>ops.toList.all (dstOk n)
 | .seq a b=>dstsOk n a && dstsOk n b
 | .cond _ a b=>dstsOk n a && dstsOk n b
 | .block _ c=>dstsOk n c
 | .loop c=>dstsOk n c
 | .rangeFunc _ ps a b=>ps.toList.all (fun p=>Nat.blt p n) && (dstsOk n a && dstsOk n b)
 | _=>true
def depsOk:Nat→List Oper→Bool
 | _,[]=>true
 | i,x :: l=>(deps x).all (fun j=>Nat.blt j i) && depsOk (i + 1) l
def drawsOk (tot:List Nat):Code→Bool
 | .region id ops draw=>!draw || (bif tot.contains id then Region.noSelect ops && depsOk 0 ops.toList else drawOk ops)
 | .seq a b=>drawsOk tot a && drawsOk tot b
 | .cond _ a b=>drawsOk tot a && drawsOk tot b
 | .block _ c=>drawsOk tot c
 | .loop c=>drawsOk tot c
 | .rangeFunc _ _ a b=>drawsOk tot a && drawsOk tot b
 | _=>true
def funOk (tot:List Nat) (fn:Func):Bool :=
 match fn.body with
 | some c => (dstsOk fn.ntmps c && drawsOk tot c) && idsOk ((loopsOf c).map firstRegion) && idsOk ((rangesOf fn.ntmps c).map (·.1)) && decide (fn.params.size + fn.nfree ≤ fn.ntmps) && !(fn.name == "runtime.NumGoroutine")
 | none=>false
end Go.V
namespace Go.V
class Codes where
 cd:Nat→Nat→Option LCode
variable [Codes]
structure Gb where
 isRow:Bool
 own:Bool
 blk:Option Nat
 off:Nat
 len:Nat
 cap:Nat
 sz:Nat
 ad:Option Addr
structure Gh where
 fz:Nat→Nat→Option Value
 bx:Nat→Option Gb
def Elems {α:Type} (R:α→List Value→Prop):List α→List Value→Prop
 | [],cs=>cs = []
 | x :: l,cs=>∃ c1 c2,cs = c1++c2∧R x c1∧Elems R l c2
def Fz (fz:Nat→Nat→Option Value) (blk off:Nat) (cs:List Value):Prop:=∀ j v,cs[j]? = some v→fz blk (off + j) = some v
def SlR {α:Type} (R:α→List Value→Prop) (fz:Nat→Nat→Option Value) (l:List α) (v:Value):Prop :=
 (l = []∧∃ a,v = .slice a 0 0) ∨
 ∃ blk off cap cs,v = .slice (some ⟨blk,off,none⟩) l.length cap∧l.length≤cap∧Elems R l cs∧Fz fz blk off cs
def CR (fz:Nat→Nat→Option Value):(T:Ty)→T.den→List Value→Prop
 | .int k,x,cs=>cs = [.int k x]
 | .bool,x,cs=>cs = [.bool x]
 | .str,x,cs=>cs = [.string x]
 | .sl e,l,cs=>∃ v,cs = [v]∧SlR (CR fz e) fz l v
 | .unit,_,cs=>cs = []
 | .pair a b,x,cs=>∃ c1 c2,cs = c1++c2∧CR fz a x.1 c1∧CR fz b x.2 c2
 | .arr n e,l,cs=>l.length = n∧Elems (CR fz e) l cs
def stepsOff:List Stp→Nat
 | []=>0
 | s :: p=>s.i.toNat * s.sz + s.o + stepsOff p
def PsR (fz:Nat→Nat→Option Value):List AV→List Value→Prop
 | [],cs=>cs = []
 | .val T x :: gs,cs=>∃ c1 c2,cs = c1++c2∧CR fz T x c1∧PsR fz gs c2
 | _ :: _,_=>False
def CapR (g:Gh) (v:AV) (c:Value):Prop :=
 match v with
 | .ptr b 0 []=>∃ gb blk,g.bx b = some gb∧gb.isRow = false∧gb.blk = some blk∧c = .pointer (some ⟨blk,0,none⟩)
 | _=>False
def CapsR (g:Gh):List AV→List Value→Prop
 | [],[]=>True
 | a :: l,v :: vs=>CapR g a v∧CapsR g l vs
 | _,_=>False
def WinR (gb:Gb) (w:Win) (v:Value):Prop :=
 match w,gb.blk with
 | .whole,none=>v = .slice gb.ad 0 0∧gb.len = 0
 | .whole,some blk=>v = .slice (some ⟨blk,gb.off,none⟩) gb.len gb.cap
 | .part off n full,some blk=>off + n≤gb.len∧∃ a c,v = .slice (some a) n c∧a.spot = none∧n≤c∧(full = true→c = n)∧off + c≤gb.cap∧(c = 0 ∨ a = ⟨blk,gb.off + off * gb.sz,none⟩)
 | .part off n _,none=>off = 0∧n = 0∧gb.len = 0∧v = .slice gb.ad 0 0
def GR (g:Gh) (v:AV) (cs:List Value):Prop :=
 match v with
 | .val T x=>CR g.fz T x cs
 | .full T l=>(l = []∧∃ a,cs = [.slice a 0 0]) ∨ ∃ blk off cs',cs = [.slice (some ⟨blk,off,none⟩) l.length l.length]∧Elems (CR g.fz T) l cs'∧Fz g.fz blk off cs'
 | .nn T l=>(l = []∧∃ a,cs = [.slice (some a) 0 0]) ∨ ∃ blk off cap cs',cs = [.slice (some ⟨blk,off,none⟩) l.length cap]∧l.length≤cap∧Elems (CR g.fz T) l cs'∧Fz g.fz blk off cs'
 | .nils=>cs = [.slice none 0 0]
 | .nilp=>cs = [.pointer none]
 | .nilf=>cs = [.nilFunc]
 | .nili=>cs = [.nilIface]
 | .ptr b off p=>∃ gb blk,g.bx b = some gb∧gb.isRow = false∧gb.blk = some blk∧(∀ s∈p,0≤s.i∧s.i < s.n)∧cs = [.pointer (some ⟨blk,off + stepsOff p,none⟩)]
 | .rptr b i o=>∃ gb blk,g.bx b = some gb∧gb.isRow = true∧gb.blk = some blk∧0≤i∧i < gb.len∧cs = [.pointer (some ⟨blk,gb.off + i.toNat * gb.sz + o,none⟩)]
 | .eptr gs=>∃ blk off cs',cs = [.pointer (some ⟨blk,off,none⟩)]∧PsR g.fz gs cs'∧Fz g.fz blk off cs'
 | .row b w=>∃ gb v,g.bx b = some gb∧gb.isRow = true∧cs = [v]∧WinR gb w v
 | .vsl b off n lo len=>∃ gb blk cap,g.bx b = some gb∧gb.isRow = false∧gb.blk = some blk∧lo + len≤n∧len≤cap∧∃ a,cs = [.slice (some a) len cap]∧a.spot = none∧(cap = 0 ∨ a = ⟨blk,off + lo,none⟩)
 | .fn f caps=>∃ vs,cs = [.func (.func f) #[] vs]∧CapsR g caps vs.toList
 | .yld b=>∃ gb l,g.bx b = some gb∧gb.isRow = false∧gb.blk = some l∧cs = [.func (.yield l) #[] #[]]
 | .iface t v=>∃ c,cs = [.iface t c]∧match v with
  | .val (.int k) x=>c = .int k x
  | .val .str x=>c = .string x
  | .agg []=>c = .agg #[]
  | _=>False
 | .mp b=>∃ gb r,g.bx b = some gb∧gb.isRow = false∧gb.blk = some r∧cs = [.map (some r)]
 | .junk=>∃ v,cs = [v]∧v.oneCell' = true
 | .agg _ | .tup _=>False
def GsR (g:Gh):List AV→List Value→Prop
 | [],cs=>cs = []
 | v :: gs,cs=>∃ c1 c2,cs = c1++c2∧GR g v c1∧GsR g gs c2
def VR1 (g:Gh) (v:AV) (c:Value):Prop :=
 match v with
 | .agg gs=>∃ arr,c = .agg arr∧GsR g gs arr.toList
 | .val (.arr n T) l=>∃ arr,c = .agg arr∧CR g.fz (.arr n T) l arr.toList
 | .val (.pair _ _) _ | .val .unit _=>False
 | .junk=>True
 | v=>GR g v [c]
def TsR (g:Gh):List AV→List Value→Prop
 | [],[]=>True
 | a :: l,v :: vs=>VR1 g a v∧TsR g l vs
 | _,_=>False
def VR (g:Gh) (v:AV) (c:Value):Prop :=
 match v with
 | .tup vs=>∃ arr,c = .tuple arr∧TsR g vs arr.toList
 | v=>VR1 g v c
def BlkIs (w:World) (blk:Nat) (cells:List Value):Prop :=
 ∃ elem lo hi,w.heap[blk]? = some (.cells cells.toArray elem (lo,hi))∧∀ o,o < cells.length→¬ (lo≤o∧o < hi)
def TV (fz:Nat→Nat→Option Value) (T:Ty) (x:T.den) (c:Value):Prop :=
 ∃ arr:Array Value,CR fz T x arr.toList∧c = bif T.isAgg then .agg arr else arr.getD 0 undef
def EntR (fz:Nat→Nat→Option Value) (K V:Ty):List (K.den × V.den)→List MapEntry→Prop
 | [],[]=>True
 | x :: l,e :: es=>TV fz K x.1 e.key∧TV fz V x.2 e.val∧EntR fz K V l es
 | _,_=>False
def BoxR (g:Gh) (b:Box) (gb:Gb) (w:World):Prop :=
 match b with
 | .map K V l=>gb.isRow = false∧gb.own = true∧∃ r es clock,gb.blk = some r∧w.heap[r]? = some (.map es clock)∧EntR g.fz K V l es.toList∧∀ o,g.fz r o = none
 | .loop busy f id env=>gb.isRow = false∧gb.own = true∧∃ l tm D fn cd,gb.blk = some l∧Codes.cd f id = some cd ∧
   w.heap[l]? = some (.loop { state:=if busy = true then .busy else .ready,pending:=none,fn:=fn,tmps:=tm,params:=cd.ps.toArray,assign:=cd.assign,body:=cd.body,defers:=D }) ∧
   (∀ n v,find env n = some v→VR g v (tm.getD n undef))∧(cd.n≤tm.size∧∀ o,g.fz l o = none)
 | .dead=>gb.isRow = false∧gb.own = true∧∃ l o,gb.blk = some l∧w.heap[l]? = some o∧∀ o,g.fz l o = none
 | .var gs=>gb.isRow = false∧gb.own = true∧∃ blk cells,gb.blk = some blk∧BlkIs w blk cells∧GsR g gs cells∧∀ o,g.fz blk o = none
 | .row T fz l=>gb.isRow = true∧gb.sz = T.size∧gb.len = l.length∧gb.len≤gb.cap ∧
  match gb.blk,gb.own with
  | none,_=>l = []∧gb.own = false∧gb.cap = 0
  | some blk,false=>(fz = true ∨ l = [])∧gb.cap = gb.len∧∃ cs,Elems (CR g.fz T) l cs∧Fz g.fz blk gb.off cs
  | some blk,true=>∃ cells cs,BlkIs w blk cells∧gb.off + gb.cap * T.size≤cells.length∧Elems (CR g.fz T) l cs ∧
    (∀ j v,cs[j]? = some v→cells[gb.off + j]? = some v) ∧
    (fz = false→∀ o,g.fz blk o = none)∧(fz = true→Fz g.fz blk gb.off cs∧∀ o,gb.off + cs.length≤o→g.fz blk o = none)
def owned (g:Gh) (blk:Nat):Prop:=∃ k gb,g.bx k = some gb∧gb.blk = some blk∧gb.own = true
structure BxR (g:Gh) (bxs:Bxs) (w:World):Prop where
 box:∀ k b,find bxs k = some b→∃ gb,g.bx k = some gb∧BoxR g b gb w
 dom:∀ k gb,g.bx k = some gb→(find bxs k).isSome = true
 sep:∀ k j a b blk,k ≠ j→g.bx k = some a→g.bx j = some b→a.blk = some blk→a.own = true→b.blk = some blk→b.own = true→False
structure BxW (g:Gh) (bxs:Bxs) (w:World):Prop where
 box:∀ k b,find bxs k = some b→∃ gb,g.bx k = some gb∧BoxR g b gb w
theorem BxR.w {g:Gh} {bxs:Bxs} {w:World} (h:BxR g bxs w):BxW g bxs w:=⟨h.box⟩
def FzOK (g:Gh) (w:World):Prop:=∀ b o v,g.fz b o = some v→w.cell? ⟨b,o,none⟩ = some v
def EnvR (g:Gh) (env:Env) (tm:Array Value):Prop:=∀ n v,find env n = some v→VR g v (tm.getD n undef)
def StkR (g:Gh):List Env→List (Array Value)→Prop
 | [],[]=>True
 | e :: l,t :: ts=>EnvR g e t∧StkR g l ts
 | _,_=>False
structure StR (g:Gh) (s:St) (tm:Array Value) (tms:List (Array Value)) (w:World):Prop where
 env:EnvR g s.env tm
 stk:StkR g s.stk tms
 bxs:BxR g s.bxs w
 fz:FzOK g w
structure Tr (g:Gh) (w:World) (g':Gh) (w':World):Prop where
 os:w'.os = w.os
 tape:w'.tape = w.tape
 output:w'.output = w.output
 size:w.heap.size≤w'.heap.size
 fz:∀ b o v,g.fz b o = some v→g'.fz b o = some v
 fzNew:∀ b o,g'.fz b o ≠ none→g.fz b o ≠ none ∨ w.heap.size≤b ∨ owned g b
 own:∀ b,owned g' b→owned g b ∨ w.heap.size≤b
 block:∀ b,b < w.heap.size→¬ owned g b→w'.heap[b]? = w.heap[b]?
theorem Tr.refl (g:Gh) (w:World):Tr g w g w :=
 ⟨rfl,rfl,rfl,Nat.le_refl _,fun _ _ _ h=>h,fun _ _ h=>.inl h,fun _ h=>.inl h,fun _ _ _=>rfl⟩
theorem Tr.trans {g g' g'':Gh} {w w' w'':World} (h:Tr g w g' w') (k:Tr g' w' g'' w''):Tr g w g'' w'' where
 os:=k.os.trans h.os
 tape:=k.tape.trans h.tape
 output:=k.output.trans h.output
 size:=Nat.le_trans h.size k.size
 fz:=fun b o v e=>k.fz b o v (h.fz b o v e)
 fzNew:=fun b o e=>by
  rcases k.fzNew b o e with h1 | h1 | h1
  ·exact h.fzNew b o h1
  ·exact .inr (.inl (Nat.le_trans h.size h1))
  ·rcases h.own b h1 with h2 | h2
   ·exact .inr (.inr h2)
   ·exact .inr (.inl h2)
 own:=fun b e=>by
  rcases k.own b e with h1 | h1
  ·exact h.own b h1
  ·exact .inr (Nat.le_trans h.size h1)
 block:=fun b hb ho=>by
  have h1:¬ owned g' b:=fun h2=>by
   rcases h.own b h2 with h3 | h3
   ·exact ho h3
   ·omega
  exact (k.block b (Nat.lt_of_lt_of_le hb h.size) h1).trans (h.block b hb ho)
theorem Elems.length {α:Type} {R:α→List Value→Prop} {n:Nat} (hR:∀ x cs,R x cs→cs.length = n):∀ {l:List α} {cs:List Value},Elems R l cs→cs.length = l.length * n
 | [],cs,h=>by simp [Elems] at h; simp [h]
 | x :: l,cs,h=>by
  obtain ⟨c1,c2,rfl,h1,h2⟩:=h
  rw [List.length_append,hR _ _ h1,h2.length hR,List.length_cons,Nat.succ_mul,Nat.add_comm]
theorem Elems.mono {α:Type} {R R':α→List Value→Prop} (hR:∀ x cs,R x cs→R' x cs):∀ {l:List α} {cs:List Value},Elems R l cs→Elems R' l cs
 | [],_,h=>h
 | _ :: _,_,⟨c1,c2,e,h1,h2⟩=>⟨c1,c2,e,hR _ _ h1,h2.mono hR⟩
theorem CR.length {fz:Nat→Nat→Option Value}:∀ {T:Ty} {x:T.den} {cs:List Value},CR fz T x cs→cs.length = T.size
 | .int _,_,_,h=>by simp only [CR] at h; simp [h,Ty.size]
 | .bool,_,_,h=>by simp only [CR] at h; simp [h,Ty.size]
 | .str,_,_,h=>by simp only [CR] at h; simp [h,Ty.size]
 | .sl _,_,_,h=>by obtain ⟨v,rfl,_⟩:=h; simp [Ty.size]
 | .unit,_,_,h=>by simp only [CR] at h; simp [h,Ty.size]
 | .pair a b,x,cs,h=>by
  obtain ⟨c1,c2,rfl,h1,h2⟩:=h
  rw [List.length_append,h1.length,h2.length,Ty.size]
 | .arr n e,l,cs,h=>by
  obtain ⟨h1,h2⟩:=h
  rw [h2.length (n:=e.size) (fun x cs h=>h.length),h1,Ty.size]
theorem Fz.mono {fz fz':Nat→Nat→Option Value} (hf:∀ b o v,fz b o = some v→fz' b o = some v) {blk off:Nat} {cs:List Value} (h:Fz fz blk off cs):Fz fz' blk off cs :=
 fun j v e=>hf _ _ _ (h j v e)
theorem CR.mono {fz fz':Nat→Nat→Option Value} (hf:∀ b o v,fz b o = some v→fz' b o = some v):∀ {T:Ty} {x:T.den} {cs:List Value},CR fz T x cs→CR fz' T x cs
 | .int _,_,_,h=>h
 | .bool,_,_,h=>h
 | .str,_,_,h=>h
 | .sl e,_,_,h=>by
  obtain ⟨v,rfl,h⟩:=h
  refine ⟨v,rfl,?_⟩
  rcases h with h | ⟨blk,off,cap,cs,h1,h2,h3,h4⟩
  ·exact .inl h
  ·exact .inr ⟨blk,off,cap,cs,h1,h2,h3.mono (fun x cs h=>CR.mono hf h),h4.mono hf⟩
 | .unit,_,_,h=>h
 | .pair a b,x,cs,h=>by
  obtain ⟨c1,c2,rfl,h1,h2⟩:=h
  exact ⟨c1,c2,rfl,CR.mono hf h1,CR.mono hf h2⟩
 | .arr n e,l,cs,h=>⟨h.1,h.2.mono (fun x cs h=>CR.mono hf h)⟩
theorem Elems.get {α:Type} {R:α→List Value→Prop} {n:Nat} (hR:∀ x cs,R x cs→cs.length = n):∀ {l:List α} {cs:List Value},Elems R l cs→∀ i (hi:i < l.length),
  ∃ a c b,cs = a++(c++b)∧a.length = i * n∧R l[i] c∧Elems R (l.take i) a∧Elems R (l.drop (i + 1)) b
 | [],_,_,i,hi=>by simp at hi
 | x :: l,cs,⟨c1,c2,e,h1,h2⟩,0,_=>⟨[],c1,c2,by simp [e],by simp,h1,rfl,by simpa using h2⟩
 | x :: l,cs,⟨c1,c2,e,h1,h2⟩,i + 1,hi=>by
  obtain ⟨a,c,b,e2,ha,hc,h3,h4⟩:=h2.get hR i (by simpa using hi)
  refine ⟨c1++a,c,b,by simp [e,e2],?_,by simpa using hc,⟨c1,a,rfl,h1,h3⟩,by simpa using h4⟩
  rw [List.length_append,hR _ _ h1,ha,Nat.succ_mul,Nat.add_comm]
theorem Elems.append {α:Type} {R:α→List Value→Prop}:∀ {l m:List α} {a b:List Value},Elems R l a→Elems R m b→Elems R (l++m) (a++b)
 | [],m,a,b,h,k=>by have:a = []:=h; subst this; exact k
 | x :: l,m,a,b,⟨c1,c2,e,h1,h2⟩,k=>⟨c1,c2++b,by simp [e],h1,h2.append k⟩
theorem Elems.split {α:Type} {R:α→List Value→Prop} {n:Nat} (hR:∀ x cs,R x cs→cs.length = n):∀ {l:List α} {cs:List Value},Elems R l cs→∀ i,i≤l.length →
  Elems R (l.take i) (cs.take (i * n))∧Elems R (l.drop i) (cs.drop (i * n))
 | [],cs,h,i,hi=>by
  have:cs = []:=h
  subst this
  have:i = 0:=by simpa using hi
  subst this
  simp [Elems]
 | x :: l,cs,h,0,_=>by simp only [List.take_zero,List.drop_zero,Nat.zero_mul]; exact ⟨rfl,h⟩
 | x :: l,cs,⟨c1,c2,e,h1,h2⟩,i + 1,hi=>by
  obtain ⟨h3,h4⟩:=h2.split hR i (by simpa using hi)
  have hc:=hR _ _ h1
  subst e
  have e1:(i + 1) * n = c1.length + i * n:=by rw [Nat.succ_mul,hc,Nat.add_comm]
  constructor
  ·show Elems R (x :: l.take i) ((c1++c2).take ((i + 1) * n))
   have e2:(c1++c2).take ((i + 1) * n) = c1++c2.take (i * n):=by rw [e1,List.take_append,List.take_of_length_le (by omega),Nat.add_sub_cancel_left]
   rw [e2]
   exact ⟨c1,_,rfl,h1,h3⟩
  ·show Elems R (l.drop i) ((c1++c2).drop ((i + 1) * n))
   have e2:(c1++c2).drop ((i + 1) * n) = c2.drop (i * n):=by rw [e1,List.drop_append,List.drop_of_length_le (by omega),Nat.add_sub_cancel_left,List.nil_append]
   rw [e2]
   exact h4
theorem Elems.set {α:Type} {R:α→List Value→Prop} {n:Nat} (hR:∀ x cs,R x cs→cs.length = n) {l:List α} {cs:List Value} (h:Elems R l cs) (i:Nat) (hi:i < l.length) {y:α} {c:List Value} (hy:R y c) :
  ∃ a b c0,cs = a++(c0++b)∧a.length = i * n∧R l[i] c0∧Elems R (l.set i y) (a++(c++b)):=by
 obtain ⟨a,c0,b,e,ha,h0,h1,h2⟩:=h.get hR i hi
 refine ⟨a,b,c0,e,ha,h0,?_⟩
 rw [List.set_eq_take_append_cons_drop,if_pos hi]
 exact h1.append ⟨c,b,rfl,hy,h2⟩
theorem PsR.append {fz:Nat→Nat→Option Value}:∀ {l m:List AV} {a b:List Value},PsR fz l a→PsR fz m b→PsR fz (l++m) (a++b)
 | [],m,a,b,h,k=>by have:a = []:=h; subst this; exact k
 | .val T x :: l,m,a,b,⟨c1,c2,e,h1,h2⟩,k=>⟨c1,c2++b,by simp [e],h1,h2.append k⟩
theorem psR_gs {fz:Nat→Nat→Option Value}:∀ {T:Ty} {x:T.den} {cs:List Value},CR fz T x cs→PsR fz (T.gs x) cs
 | .int _,_,cs,h=>⟨cs,[],by simp,h,rfl⟩
 | .bool,_,cs,h=>⟨cs,[],by simp,h,rfl⟩
 | .str,_,cs,h=>⟨cs,[],by simp,h,rfl⟩
 | .sl _,_,cs,h=>⟨cs,[],by simp,h,rfl⟩
 | .unit,_,_,h=>h
 | .pair a b,x,cs,h=>by
  obtain ⟨c1,c2,rfl,h1,h2⟩:=h
  exact (psR_gs h1).append (psR_gs h2)
 | .arr _ _,_,cs,h=>⟨cs,[],by simp,h,rfl⟩
theorem PsR.gsR {g:Gh}:∀ {l:List AV} {cs:List Value},PsR g.fz l cs→GsR g l cs
 | [],_,h=>h
 | .val _ _ :: _,_,⟨c1,c2,e,h1,h2⟩=>⟨c1,c2,e,h1,h2.gsR⟩
theorem gsR_gs {g:Gh} {T:Ty} {x:T.den} {cs:List Value} (h:CR g.fz T x cs):GsR g (T.gs x) cs:=(psR_gs h).gsR
theorem GsR.append {g:Gh}:∀ {l m:List AV} {a b:List Value},GsR g l a→GsR g m b→GsR g (l++m) (a++b)
 | [],m,a,b,h,k=>by have:a = []:=h; subst this; exact k
 | _ :: l,m,a,b,⟨c1,c2,e,h1,h2⟩,k=>⟨c1,c2++b,by simp [e],h1,h2.append k⟩
theorem GR.length {g:Gh} {v:AV} {cs:List Value} (h:GR g v cs):cs.length = v.size:=by
 cases v <;> simp only [GR] at h <;> simp only [AV.size]
 case val T x=>exact h.length
 case full=>rcases h with ⟨_,_,rfl⟩ | ⟨_,_,_,rfl,_⟩ <;> rfl
 case nn=>rcases h with ⟨_,_,rfl⟩ | ⟨_,_,_,_,rfl,_⟩ <;> rfl
 case ptr=>obtain ⟨_,_,_,_,_,_,rfl⟩:=h; rfl
 case rptr=>obtain ⟨_,_,_,_,_,_,_,rfl⟩:=h; rfl
 case eptr=>obtain ⟨_,_,_,rfl,_⟩:=h; rfl
 case row=>obtain ⟨_,_,_,_,rfl,_⟩:=h; rfl
 case vsl=>obtain ⟨_,_,_,_,_,_,_,_,_,rfl,_⟩:=h; rfl
 case fn=>obtain ⟨_,rfl,_⟩:=h; rfl
 case yld=>obtain ⟨_,_,_,_,_,rfl⟩:=h; rfl
 case iface=>obtain ⟨_,rfl,_⟩:=h; rfl
 case mp=>obtain ⟨_,_,_,_,_,rfl⟩:=h; rfl
 case junk=>obtain ⟨_,rfl,_⟩:=h; rfl
 all_goals simp [h]
theorem GsR.length {g:Gh}:∀ {gs:List AV} {cs:List Value},GsR g gs cs→cs.length = gsSize gs
 | [],_,h=>by have:_ = []:=h; simp [this,gsSize]
 | v :: gs,_,⟨c1,c2,e,h1,h2⟩=>by rw [e,List.length_append,h1.length,h2.length,gsSize]
theorem PsR.length {fz:Nat→Nat→Option Value}:∀ {gs:List AV} {cs:List Value},PsR fz gs cs→cs.length = gsSize gs :=
 fun h=>(PsR.gsR (g:=⟨fz,fun _=>none⟩) h).length
theorem PsR.mono {fz fz':Nat→Nat→Option Value} (hf:∀ b o v,fz b o = some v→fz' b o = some v):∀ {l:List AV} {cs:List Value},PsR fz l cs→PsR fz' l cs
 | [],_,h=>h
 | .val _ _ :: _,_,⟨c1,c2,e,h1,h2⟩=>⟨c1,c2,e,h1.mono hf,h2.mono hf⟩
theorem ble_false {a b:Nat} (h:¬ a≤b):Nat.ble a b = false:=by
 cases hb:Nat.ble a b
 ·rfl
 ·exact absurd (Nat.le_of_ble_eq_true hb) h
theorem dropGs_rel {g:Gh}:∀ {gs:List AV} {n:Nat} {gs':List AV} {cs:List Value},dropGs gs n = some gs'→GsR g gs cs→n≤cs.length∧GsR g gs' (cs.drop n)
 | gs,0,gs',cs,h,k=>by
  simp only [dropGs,Option.some.injEq] at h
  subst h
  exact ⟨Nat.zero_le _,by simpa using k⟩
 | [],n + 1,gs',cs,h,k=>by simp [dropGs] at h
 | v :: gs,n + 1,gs',cs,h,⟨c1,c2,e,h1,h2⟩=>by
  simp only [dropGs] at h
  by_cases hle:v.size≤n + 1
  ·simp only [Nat.ble_eq_true_of_le hle,cond_true] at h
   obtain ⟨h3,h4⟩:=dropGs_rel h h2
   have hl:=h1.length
   subst e
   refine ⟨by rw [List.length_append]; omega,?_⟩
   rw [List.drop_append,List.drop_of_length_le (by omega),List.nil_append,hl]
   exact h4
  ·have hb:Nat.ble v.size (n + 1) = false:=ble_false hle
   simp [hb] at h
theorem takeGs_rel {g:Gh}:∀ {gs:List AV} {n:Nat} {gs':List AV} {cs:List Value},takeGs gs n = some gs'→GsR g gs cs→n≤cs.length∧GsR g gs' (cs.take n)
 | gs,0,gs',cs,h,k=>by
  simp only [takeGs,Option.some.injEq] at h
  subst h
  exact ⟨Nat.zero_le _,by simp [GsR]⟩
 | [],n + 1,gs',cs,h,k=>by simp [takeGs] at h
 | v :: gs,n + 1,gs',cs,h,⟨c1,c2,e,h1,h2⟩=>by
  simp only [takeGs] at h
  by_cases hle:v.size≤n + 1
  ·simp only [Nat.ble_eq_true_of_le hle,cond_true,Option.map_eq_some_iff] at h
   obtain ⟨r,hr,rfl⟩:=h
   obtain ⟨h3,h4⟩:=takeGs_rel hr h2
   have hl:=h1.length
   subst e
   refine ⟨by rw [List.length_append]; omega,?_⟩
   rw [List.take_append,List.take_of_length_le (by omega),hl]
   exact ⟨c1,_,rfl,h1,h4⟩
  ·have hb:Nat.ble v.size (n + 1) = false:=ble_false hle
   simp [hb] at h
theorem putGs_rel {g:Gh} {new:List AV} {ns:List Value} (hn:GsR g new ns):∀ {gs:List AV} {n:Nat} {gs':List AV} {cs:List Value},putGs gs n new = some gs'→GsR g gs cs →
  n + ns.length≤cs.length∧GsR g gs' (cs.take n++ns++cs.drop (n + ns.length))
 | gs,0,gs',cs,h,k=>by
  have h':(dropGs gs (gsSize new)).map (new++·) = some gs':=by cases gs <;> simpa [putGs] using h
  rw [Option.map_eq_some_iff] at h'
  obtain ⟨r,hr,rfl⟩:=h'
  obtain ⟨h3,h4⟩:=dropGs_rel hr k
  rw [← hn.length] at h3 h4
  refine ⟨by omega,?_⟩
  simp only [List.take_zero,List.nil_append,Nat.zero_add]
  exact hn.append h4
 | [],n + 1,gs',cs,h,k=>by simp [putGs] at h
 | v :: gs,n + 1,gs',cs,h,⟨c1,c2,e,h1,h2⟩=>by
  simp only [putGs] at h
  by_cases hle:v.size≤n + 1
  ·simp only [Nat.ble_eq_true_of_le hle,cond_true,Option.map_eq_some_iff] at h
   obtain ⟨r,hr,rfl⟩:=h
   obtain ⟨h3,h4⟩:=putGs_rel hn hr h2
   have hl:=h1.length
   subst e
   refine ⟨by rw [List.length_append]; omega,?_⟩
   rw [List.take_append,List.take_of_length_le (by omega),List.drop_append,List.drop_of_length_le (by omega),List.nil_append,hl,
    show n + 1 + ns.length - v.size = n + 1 - v.size + ns.length by omega,List.append_assoc,List.append_assoc]
   exact ⟨c1,_,rfl,h1,by simpa [List.append_assoc] using h4⟩
  ·have hb:Nat.ble v.size (n + 1) = false:=ble_false hle
   simp [hb] at h
theorem Elems.all {α:Type} {R:α→List Value→Prop} {p:Value→Prop} (hR:∀ x cs,R x cs→∀ c∈cs,p c):∀ {l:List α} {cs:List Value},Elems R l cs→∀ c∈cs,p c
 | [],_,h=>by have:_ = []:=h; simp [this]
 | x :: l,_,⟨c1,c2,e,h1,h2⟩=>by
  intro c hc
  rw [e,List.mem_append] at hc
  rcases hc with hc | hc
  ·exact hR _ _ h1 c hc
  ·exact h2.all hR c hc
theorem CR.one {fz:Nat→Nat→Option Value}:∀ {T:Ty} {x:T.den} {cs:List Value},CR fz T x cs→∀ c∈cs,c.oneCell' = true
 | .int _,_,_,h=>by simp only [CR] at h; simp [h,Value.oneCell']
 | .bool,_,_,h=>by simp only [CR] at h; simp [h,Value.oneCell']
 | .str,_,_,h=>by simp only [CR] at h; simp [h,Value.oneCell']
 | .sl _,_,_,h=>by
  obtain ⟨v,rfl,h⟩:=h
  rcases h with ⟨_,_,rfl⟩ | ⟨_,_,_,_,rfl,_⟩ <;> simp [Value.oneCell']
 | .unit,_,_,h=>by simp only [CR] at h; simp [h]
 | .pair a b,x,cs,h=>by
  obtain ⟨c1,c2,rfl,h1,h2⟩:=h
  intro c hc
  rw [List.mem_append] at hc
  rcases hc with hc | hc
  ·exact h1.one c hc
  ·exact h2.one c hc
 | .arr n e,l,cs,h=>h.2.all (fun x cs h=>h.one)
theorem WinR.one {gb:Gb} {w:Win} {v:Value} (h:WinR gb w v):v.oneCell' = true:=by
 unfold WinR at h
 split at h
 ·rw [h.1]; rfl
 ·rw [h]; rfl
 ·obtain ⟨_,a,c,rfl,_⟩:=h; rfl
 ·rw [h.2.2.2]; rfl
theorem GR.one {g:Gh} {v:AV} {cs:List Value} (h:GR g v cs):∀ c∈cs,c.oneCell' = true:=by
 cases v <;> simp only [GR] at h
 case val T x=>exact h.one
 case full=>rcases h with ⟨_,_,rfl⟩ | ⟨_,_,_,rfl,_⟩ <;> simp [Value.oneCell']
 case nn=>rcases h with ⟨_,_,rfl⟩ | ⟨_,_,_,_,rfl,_⟩ <;> simp [Value.oneCell']
 case ptr=>obtain ⟨_,_,_,_,_,_,rfl⟩:=h; simp [Value.oneCell']
 case rptr=>obtain ⟨_,_,_,_,_,_,_,rfl⟩:=h; simp [Value.oneCell']
 case eptr=>obtain ⟨_,_,_,rfl,_⟩:=h; simp [Value.oneCell']
 case row=>obtain ⟨_,_,_,_,rfl,h⟩:=h; simp [h.one]
 case vsl=>obtain ⟨_,_,_,_,_,_,_,_,_,rfl,_⟩:=h; simp [Value.oneCell']
 case fn=>obtain ⟨_,rfl,_⟩:=h; simp [Value.oneCell']
 case yld=>obtain ⟨_,_,_,_,_,rfl⟩:=h; simp [Value.oneCell']
 case iface=>obtain ⟨_,rfl,_⟩:=h; simp [Value.oneCell']
 case mp=>obtain ⟨_,_,_,_,_,rfl⟩:=h; simp [Value.oneCell']
 case junk=>obtain ⟨_,rfl,h⟩:=h; simp [h]
 all_goals simp [h,Value.oneCell']
theorem GsR.one {g:Gh}:∀ {gs:List AV} {cs:List Value},GsR g gs cs→∀ c∈cs,c.oneCell' = true
 | [],_,h=>by have:_ = []:=h; simp [this]
 | v :: gs,_,⟨c1,c2,e,h1,h2⟩=>by
  intro c hc
  rw [e,List.mem_append] at hc
  rcases hc with hc | hc
  ·exact h1.one c hc
  ·exact h2.one c hc
theorem cells_one {c:Value} (h:c.oneCell' = true):c.cells = #[c]:=by
 cases c <;> first | rfl | (simp [Value.oneCell'] at h)
theorem vr1_single {g:Gh} {v:AV} {c:Value} (hv:v.single = true):VR1 g v c ↔ GR g v [c]:=by
 cases v <;> simp only [AV.single,Bool.false_eq_true] at hv <;> try exact Iff.rfl
 case val T x=>cases T <;> simp only [Bool.false_eq_true] at hv <;> exact Iff.rfl
theorem VR1.single_gs {g:Gh} {v:AV} {c:Value} (h:VR1 g v c) (hv:v.single = true):GR g v [c]∧c.cells = #[c]:=by
 have h':=(vr1_single hv).1 h
 exact ⟨h',cells_one (h'.one c (by simp))⟩
theorem VR1.gs {g:Gh} {v:AV} {c:Value} (h:VR1 g v c) (hv:v.okGs = true):GsR g v.gs c.cells.toList:=by
 by_cases hs:v.single = true
 ·obtain ⟨h1,h2⟩:=h.single_gs hs
  have e:v.gs = [v]:=by cases v <;> first | rfl | (simp [AV.single] at hs)
  rw [e,h2]
  exact ⟨[c],[],rfl,h1,rfl⟩
 ·cases v <;> simp only [AV.okGs,Bool.false_eq_true,AV.single,not_true] at hv hs
  case val T x =>
   cases T <;> simp only [not_true] at hs
   case arr n T =>
    obtain ⟨arr,rfl,h⟩:=h
    exact ⟨arr.toList,[],by simp [Value.cells],h,rfl⟩
   all_goals exact h.elim
  case agg gs =>
   obtain ⟨arr,rfl,h⟩:=h
   exact h
theorem VR.vr1 {g:Gh} {v:AV} {c:Value} (hv:v.okGs = true) (h:VR g v c):VR1 g v c:=by
 cases v <;> first | exact h | (simp [AV.okGs] at hv)
theorem VR.gs {g:Gh} {v:AV} {c:Value} (h:VR g v c) (hv:v.okGs = true):GsR g v.gs c.cells.toList:=(VR.vr1 hv h).gs hv
theorem VR1.vr {g:Gh} {v:AV} {c:Value} (hv:∀ vs,v ≠ .tup vs) (h:VR1 g v c):VR g v c:=by
 cases v <;> first | exact h | exact (hv _ rfl).elim
theorem vr_av {g:Gh} {T:Ty} {x:T.den} {arr:Array Value} (h:CR g.fz T x arr.toList) :
  VR1 g (T.av x) (match T with | .pair _ _ | .unit | .arr _ _=>.agg arr | _=>arr.getD 0 undef):=by
 cases T
 case int k=>have h':arr.toList = [.int k x]:=h; obtain ⟨l⟩:=arr; simp only at h'; subst h'; exact rfl
 case bool=>have h':arr.toList = [.bool x]:=h; obtain ⟨l⟩:=arr; simp only at h'; subst h'; exact rfl
 case str=>have h':arr.toList = [.string x]:=h; obtain ⟨l⟩:=arr; simp only at h'; subst h'; exact rfl
 case sl e=>obtain ⟨v,h1,h2⟩:=h; obtain ⟨l⟩:=arr; simp only at h1; subst h1; exact ⟨v,rfl,h2⟩
 case unit=>exact ⟨arr,rfl,h⟩
 case pair a b=>exact ⟨arr,rfl,gsR_gs h⟩
 case arr n e=>exact ⟨arr,rfl,h⟩
end Go.V
namespace Go.V
variable [Codes]
structure ExtBut (b:Option Nat) (g g':Gh):Prop where
 fz:∀ k o v,g.fz k o = some v→g'.fz k o = some v
 bx:∀ k gb,some k ≠ b→g.bx k = some gb→g'.bx k = some gb
 row:∀ k gb,some k = b→g.bx k = some gb→gb.isRow = true
theorem ExtBut.refl (g:Gh):ExtBut none g g:=⟨fun _ _ _ h=>h,fun _ _ _ h=>h,fun _ _ h _=>nomatch h⟩
def AV.clear (b:Option Nat) (v:AV):Prop:=∀ k,b = some k→v.has k = false
theorem CapsR.ext {b:Option Nat} {g g':Gh} (hx:ExtBut b g g'):∀ {l:List AV} {vs:List Value},CapsR g l vs→CapsR g' l vs
 | [],[],h=>h
 | [],_ :: _,h=>h.elim
 | _ :: _,[],h=>h.elim
 | a :: l,v :: vs,⟨h1,h2⟩=>by
  refine ⟨?_,h2.ext hx⟩
  unfold CapR at h1 ⊢
  split at h1
  ·obtain ⟨gb,blk,e1,e2,e3⟩:=h1
   refine ⟨gb,blk,hx.bx _ _ (fun e=>?_) e1,e2,e3⟩
   have:=hx.row _ _ e e1
   rw [this] at e2
   exact absurd e2 (by decide)
  ·exact h1.elim
theorem GR.ext {b:Option Nat} {g g':Gh} (hx:ExtBut b g g') {v:AV} {cs:List Value} (h:GR g v cs) (hv:v.clear b):GR g' v cs:=by
 have kp:∀ k gb,g.bx k = some gb→gb.isRow = false→g'.bx k = some gb:=fun k gb e1 e2=>hx.bx k gb (fun e=>by
  have:=hx.row _ _ e e1
  rw [this] at e2
  exact absurd e2 (by decide)) e1
 cases v <;> simp only [GR] at h ⊢
 case val T x=>exact h.mono hx.fz
 case full T l =>
  rcases h with h | ⟨blk,off,cs',e,h1,h2⟩
  ·exact .inl h
  ·exact .inr ⟨blk,off,cs',e,h1.mono (fun x cs h=>h.mono hx.fz),h2.mono hx.fz⟩
 case nn T l =>
  rcases h with h | ⟨blk,off,cap,cs',e,h0,h1,h2⟩
  ·exact .inl h
  ·exact .inr ⟨blk,off,cap,cs',e,h0,h1.mono (fun x cs h=>h.mono hx.fz),h2.mono hx.fz⟩
 case ptr=>obtain ⟨gb,blk,e1,e2,r⟩:=h; exact ⟨gb,blk,kp _ _ e1 e2,e2,r⟩
 case rptr k i o =>
  obtain ⟨gb,blk,e1,r⟩:=h
  refine ⟨gb,blk,hx.bx _ _ (fun e=>?_) e1,r⟩
  have:=hv k e.symm
  simp [AV.has] at this
 case eptr=>obtain ⟨blk,off,cs',e,h1,h2⟩:=h; exact ⟨blk,off,cs',e,h1.mono hx.fz,h2.mono hx.fz⟩
 case row k w =>
  obtain ⟨gb,v,e1,r⟩:=h
  refine ⟨gb,v,hx.bx _ _ (fun e=>?_) e1,r⟩
  have:=hv k e.symm
  simp [AV.has] at this
 case vsl=>obtain ⟨gb,blk,cap,e1,e2,r⟩:=h; exact ⟨gb,blk,cap,kp _ _ e1 e2,e2,r⟩
 case fn=>obtain ⟨vs,e,h⟩:=h; exact ⟨vs,e,h.ext hx⟩
 case yld=>obtain ⟨gb,l,e1,e2,r⟩:=h; exact ⟨gb,l,kp _ _ e1 e2,e2,r⟩
 case mp=>obtain ⟨gb,l,e1,e2,r⟩:=h; exact ⟨gb,l,kp _ _ e1 e2,e2,r⟩
 all_goals exact h
def gsClear (b:Option Nat) (gs:List AV):Prop:=∀ k,b = some k→hasL k gs = false
theorem GsR.ext {b:Option Nat} {g g':Gh} (hx:ExtBut b g g'):∀ {gs:List AV} {cs:List Value},GsR g gs cs→gsClear b gs→GsR g' gs cs
 | [],_,h,_=>h
 | v :: gs,_,⟨c1,c2,e,h1,h2⟩,hc=>by
  refine ⟨c1,c2,e,h1.ext hx (fun k hk=>?_),h2.ext hx (fun k hk=>?_)⟩ <;> have:=hc k hk <;> simp [hasL] at this
  ·exact this.1
  ·exact this.2
theorem VR1.ext {b:Option Nat} {g g':Gh} (hx:ExtBut b g g') {v:AV} {c:Value} (h:VR1 g v c) (hv:v.clear b):VR1 g' v c:=by
 by_cases hs:v.single = true
 ·exact (vr1_single hs).2 (((vr1_single hs).1 h).ext hx hv)
 ·cases v <;> simp only [AV.single,not_true] at hs <;> try exact h
  case val T x =>
   cases T <;> simp only [not_true] at hs
   case arr n T=>obtain ⟨arr,e,h⟩:=h; exact ⟨arr,e,h.mono hx.fz⟩
   all_goals exact h
  case agg gs =>
   obtain ⟨arr,e,h⟩:=h
   exact ⟨arr,e,h.ext hx (fun k hk=>by have:=hv k hk; simpa [AV.has] using this)⟩
theorem TsR.ext {b:Option Nat} {g g':Gh} (hx:ExtBut b g g'):∀ {l:List AV} {vs:List Value},TsR g l vs→gsClear b l→TsR g' l vs
 | [],[],h,_=>h
 | [],_ :: _,h,_=>h.elim
 | _ :: _,[],h,_=>h.elim
 | a :: l,v :: vs,⟨h1,h2⟩,hc=>by
  refine ⟨h1.ext hx (fun k hk=>?_),h2.ext hx (fun k hk=>?_)⟩ <;> have:=hc k hk <;> simp [hasL] at this
  ·exact this.1
  ·exact this.2
theorem VR.ext {b:Option Nat} {g g':Gh} (hx:ExtBut b g g') {v:AV} {c:Value} (h:VR g v c) (hv:v.clear b):VR g' v c:=by
 cases v
 case tup vs =>
  obtain ⟨arr,e,h⟩:=h
  exact ⟨arr,e,h.ext hx (fun k hk=>by have:=hv k hk; simpa [AV.has] using this)⟩
 all_goals exact VR1.ext (c:=c) hx (by exact h) hv
theorem clear_none (v:AV):v.clear none:=fun _ h=>nomatch h
theorem gsClear_none (v:List AV):gsClear none v:=fun _ h=>nomatch h
theorem VR.grow {g g':Gh} (hx:ExtBut none g g') {v:AV} {c:Value} (h:VR g v c):VR g' v c:=h.ext hx (clear_none v)
theorem GsR.grow {g g':Gh} (hx:ExtBut none g g') {v:List AV} {c:List Value} (h:GsR g v c):GsR g' v c:=h.ext hx (gsClear_none v)
theorem EnvR.grow {g g':Gh} (hx:ExtBut none g g') {env:Env} {tm:Array Value} (h:EnvR g env tm):EnvR g' env tm:=fun n v e=>(h n v e).grow hx
theorem StkR.grow {g g':Gh} (hx:ExtBut none g g'):∀ {l:List Env} {ts:List (Array Value)},StkR g l ts→StkR g' l ts
 | [],[],h=>h
 | [],_ :: _,h=>h.elim
 | _ :: _,[],h=>h.elim
 | _ :: _,_ :: _,⟨h1,h2⟩=>⟨h1.grow hx,h2.grow hx⟩
theorem find_staleE (k:Nat):∀ (env:Env) (n:Nat),find (staleE k env) n = (find env n).map (·.stale k)
 | [],_=>rfl
 | (m,v) :: l,n=>by
  simp only [staleE,find]
  cases Nat.beq m n
  ·simp [find_staleE k l n]
  ·simp
theorem VR.stale {g g':Gh} {b:Nat} (hx:ExtBut (some b) g g') {v:AV} {c:Value} (h:VR g v c):VR g' (v.stale b) c:=by
 unfold AV.stale
 cases hb:v.has b
 ·exact h.ext hx (fun k hk=>by cases hk; exact hb)
 ·exact trivial
theorem EnvR.stale {g g':Gh} {b:Nat} (hx:ExtBut (some b) g g') {env:Env} {tm:Array Value} (h:EnvR g env tm):EnvR g' (staleE b env) tm:=by
 intro n v e
 rw [find_staleE] at e
 cases hf:find env n with
 | none=>rw [hf] at e; cases e
 | some u=>rw [hf] at e; cases e; exact (h n u hf).stale hx
theorem StkR.stale {g g':Gh} {b:Nat} (hx:ExtBut (some b) g g'):∀ {l:List Env} {ts:List (Array Value)},StkR g l ts→StkR g' (staleS b l) ts
 | [],[],h=>h
 | [],_ :: _,h=>h.elim
 | _ :: _,[],h=>h.elim
 | _ :: _,_ :: _,⟨h1,h2⟩=>⟨h1.stale hx,h2.stale hx⟩
theorem GR.stale {g g':Gh} {b:Nat} (hx:ExtBut (some b) g g') {v:AV} {cs:List Value} (h:GR g v cs):GR g' (v.stale b) cs:=by
 unfold AV.stale
 cases hb:v.has b
 ·exact h.ext hx (fun k hk=>by cases hk; exact hb)
 ·have h1:=h.one
  have hl:=h.length
  have hs:v.size = 1:=by cases v <;> simp [AV.has] at hb <;> rfl
  rw [hs] at hl
  match cs,hl with
  | [c],_=>exact ⟨c,rfl,h1 c (by simp)⟩
theorem GsR.stale {g g':Gh} {b:Nat} (hx:ExtBut (some b) g g'):∀ {gs:List AV} {cs:List Value},GsR g gs cs→GsR g' (staleL b gs) cs
 | [],_,h=>h
 | _ :: _,_,⟨c1,c2,e,h1,h2⟩=>⟨c1,c2,e,h1.stale hx,h2.stale hx⟩
theorem beq_false {a b:Nat} (h:a ≠ b):Nat.beq a b = false:=by
 cases e:Nat.beq a b
 ·rfl
 ·exact absurd (Nat.eq_of_beq_eq_true e) h
theorem find_cons_same {α:Type} (l:List (Nat × α)) (k:Nat) (v:α):find ((k,v) :: l) k = some v:=by simp [find]
theorem find_cons_other {α:Type} (l:List (Nat × α)) {k n:Nat} (v:α) (h:k ≠ n):find ((k,v) :: l) n = find l n:=by simp [find,beq_false h]
theorem find_setB_same:∀ (l:Bxs) (k:Nat) (b:Box),find (setB l k b) k = some b
 | [],k,b=>find_cons_same _ _ _
 | (j,c) :: l,k,b=>by
  simp only [setB]
  by_cases h:j = k
  ·subst h; simp [find]
  ·simp only [beq_false h,cond_false]
   rw [find_cons_other _ _ h]
   exact find_setB_same l k b
theorem find_setB_other:∀ (l:Bxs) {k n:Nat} (b:Box),k ≠ n→find (setB l k b) n = find l n
 | [],k,n,b,h=>by simp [setB,find,beq_false h]
 | (j,c) :: l,k,n,b,h=>by
  simp only [setB]
  by_cases hj:j = k
  ·subst hj
   simp only [Nat.beq_refl,cond_true]
   rw [find_cons_other _ _ h,find_cons_other _ _ h]
  ·simp only [beq_false hj,cond_false]
   by_cases hn:j = n
   ·subst hn; rw [find_cons_same,find_cons_same]
   ·rw [find_cons_other _ _ hn,find_cons_other _ _ hn]
    exact find_setB_other l b h
def Box.stale (k:Nat):Box→Box
 | .var gs=>.var (staleL k gs)
 | .loop u f i env=>.loop u f i (staleE k env)
 | b=>b
theorem find_staleB (k:Nat):∀ (l:Bxs) (n:Nat),find (staleB k l) n = (find l n).map (Box.stale k)
 | [],_=>rfl
 | (m,.var gs) :: l,n=>by
  simp only [staleB,find]
  cases Nat.beq m n
  ·simp [find_staleB k l n]
  ·simp [Box.stale]
 | (m,.row T fz x) :: l,n=>by
  simp only [staleB,find]
  cases Nat.beq m n
  ·simp [find_staleB k l n]
  ·simp [Box.stale]
 | (m,.loop u f i env) :: l,n=>by
  simp only [staleB,find]
  cases Nat.beq m n
  ·simp [find_staleB k l n]
  ·simp [Box.stale]
 | (m,.map K V x) :: l,n=>by
  simp only [staleB,find]
  cases Nat.beq m n
  ·simp [find_staleB k l n]
  ·simp [Box.stale]
 | (m,.dead) :: l,n=>by
  simp only [staleB,find]
  cases Nat.beq m n
  ·simp [find_staleB k l n]
  ·simp [Box.stale]
theorem BlkIs.lt {w:World} {blk:Nat} {cells:List Value} (h:BlkIs w blk cells):blk < w.heap.size:=by
 obtain ⟨e,lo,hi,h,_⟩:=h
 exact (Array.getElem?_eq_some_iff.1 h).1
theorem BlkIs.same {w w':World} {blk:Nat} {cells:List Value} (h:BlkIs w blk cells) (he:w'.heap[blk]? = w.heap[blk]?):BlkIs w' blk cells:=by
 obtain ⟨e,lo,hi,h1,h2⟩:=h
 exact ⟨e,lo,hi,he.trans h1,h2⟩
theorem BlkIs.cell {w:World} {blk:Nat} {cells:List Value} (h:BlkIs w blk cells) (o:Nat):w.cell? ⟨blk,o,none⟩ = cells[o]?:=by
 obtain ⟨e,lo,hi,h1,h2⟩:=h
 simp [World.cell?,h1]
theorem BlkIs.frozen {w:World} {blk:Nat} {cells:List Value} (h:BlkIs w blk cells) {o:Nat} (ho:o < cells.length):w.frozen? ⟨blk,o,none⟩ = false:=by
 obtain ⟨e,lo,hi,h1,h2⟩:=h
 have:=h2 o ho
 simp only [World.frozen?,h1]
 cases hd:(decide (lo≤o) && decide (o < hi))
 ·rfl
 ·simp at hd
  exact absurd hd this
theorem blkIs_alloc (w:World) (cs:List Value) (e:TypeId):BlkIs (w.alloc (.cells cs.toArray e)) w.heap.size cs :=
 ⟨e,0,0,heap_alloc_new w _,fun _ _ h=>absurd h.2 (by omega)⟩
theorem BxR.lt {g:Gh} {bxs:Bxs} {w:World} (h:BxR g bxs w) {blk:Nat} (ho:owned g blk):blk < w.heap.size:=by
 obtain ⟨k,gb,e1,e2,e3⟩:=ho
 obtain ⟨b,hb⟩:=Option.isSome_iff_exists.1 (h.dom k gb e1)
 obtain ⟨gb',e4,hr⟩:=h.box k b hb
 rw [e1] at e4
 cases e4
 cases b with
 | var gs =>
  obtain ⟨_,_,blk',cells,e5,e6,_⟩:=hr
  rw [e2] at e5
  cases e5
  exact e6.lt
 | row T fz l =>
  obtain ⟨_,_,_,_,hr⟩:=hr
  simp only [e2,e3] at hr
  obtain ⟨cells,cs,e6,_⟩:=hr
  exact e6.lt
 | loop u f i env =>
  obtain ⟨_,_,l,_,_,_,_,e5,_,e6,_⟩:=hr
  rw [e2] at e5
  cases e5
  exact (Array.getElem?_eq_some_iff.1 e6).1
 | map K V l =>
  obtain ⟨_,_,r,es,ck,e5,e6,_⟩:=hr
  rw [e2] at e5
  cases e5
  exact (Array.getElem?_eq_some_iff.1 e6).1
 | dead =>
  obtain ⟨_,_,l,_,e5,e6,_⟩:=hr
  rw [e2] at e5
  cases e5
  exact (Array.getElem?_eq_some_iff.1 e6).1
theorem FzOK.lt {g:Gh} {w:World} (h:FzOK g w) {b o:Nat} (hf:g.fz b o ≠ none):b < w.heap.size:=by
 cases e:g.fz b o with
 | none=>exact (hf e).elim
 | some v=>exact World.block_lt_of_cell? w _ (h b o v e)
def boxClear (x:Option Nat) (b:Box):Prop :=
 match b with
 | .var gs=>gsClear x gs
 | .loop _ _ _ env=>∀ n v,find env n = some v→v.clear x
 | _=>True
theorem boxClear_none (b:Box):boxClear none b:=by
 cases b <;> first | trivial | exact gsClear_none _ | exact fun _ v _=>clear_none v
theorem TV.mono {fz fz':Nat→Nat→Option Value} (hf:∀ b o v,fz b o = some v→fz' b o = some v) {T:Ty} {x:T.den} {c:Value} (h:TV fz T x c):TV fz' T x c:=by
 obtain ⟨arr,h1,h2⟩:=h
 exact ⟨arr,h1.mono hf,h2⟩
theorem EntR.mono {fz fz':Nat→Nat→Option Value} (hf:∀ b o v,fz b o = some v→fz' b o = some v) {K V:Ty}:∀ {l:List (K.den × V.den)} {es:List MapEntry},EntR fz K V l es→EntR fz' K V l es
 | [],[],h=>h
 | _ :: _,_ :: _,⟨h1,h2,h3⟩=>⟨h1.mono hf,h2.mono hf,h3.mono hf⟩
 | [],_ :: _,h=>h.elim
 | _ :: _,[],h=>h.elim
theorem BoxR.ext {x:Option Nat} {g g':Gh} (hx:ExtBut x g g') {b:Box} {gb:Gb} {w w':World} (h:BoxR g b gb w)
  (hw:∀ blk,gb.blk = some blk→gb.own = true→w'.heap[blk]? = w.heap[blk]?)
  (hf:∀ blk,gb.blk = some blk→gb.own = true→∀ o,g.fz blk o = none→g'.fz blk o = none)
  (hc:boxClear x b):BoxR g' b gb w':=by
 cases b with
 | var gs =>
  obtain ⟨h1,h2,blk,cells,h3,h4,h5,h6⟩:=h
  exact ⟨h1,h2,blk,cells,h3,h4.same (hw blk h3 h2),h5.ext hx hc,fun o=>hf blk h3 h2 o (h6 o)⟩
 | row T fz l =>
  obtain ⟨h1,h2,h3,h4,h5⟩:=h
  refine ⟨h1,h2,h3,h4,?_⟩
  cases hb:gb.blk with
  | none=>simp only [hb] at h5 ⊢; exact h5
  | some blk =>
   cases ho:gb.own with
   | false =>
    simp only [hb,ho] at h5 ⊢
    obtain ⟨k1,k2,cs,k3,k4⟩:=h5
    exact ⟨k1,k2,cs,k3.mono (fun x cs h=>h.mono hx.fz),k4.mono hx.fz⟩
   | true =>
    simp only [hb,ho] at h5 ⊢
    obtain ⟨cells,cs,k1,k2,k3,k4,k5,k6⟩:=h5
    exact ⟨cells,cs,k1.same (hw blk hb ho),k2,k3.mono (fun x cs h=>h.mono hx.fz),k4,fun e o=>hf blk hb ho o (k5 e o),
     fun e=>⟨(k6 e).1.mono hx.fz,fun o h=>hf blk hb ho o ((k6 e).2 o h)⟩⟩
 | loop u f i env =>
  obtain ⟨h1,h2,l,tm,D,fn,cd,h3,h7,h4,h5,h6⟩:=h
  exact ⟨h1,h2,l,tm,D,fn,cd,h3,h7,(hw l h3 h2).trans h4,fun n v e=>(h5 n v e).ext hx (hc n v e),h6.1,fun o=>hf l h3 h2 o (h6.2 o)⟩
 | map K V l =>
  obtain ⟨h1,h2,r,es,ck,h3,h4,h5,h6⟩:=h
  exact ⟨h1,h2,r,es,ck,h3,(hw r h3 h2).trans h4,h5.mono hx.fz,fun o=>hf r h3 h2 o (h6 o)⟩
 | dead =>
  obtain ⟨h1,h2,l,o,h3,h4,h6⟩:=h
  exact ⟨h1,h2,l,o,h3,(hw l h3 h2).trans h4,fun o=>hf l h3 h2 o (h6 o)⟩
theorem BoxR.extStale {x:Nat} {g g':Gh} (hx:ExtBut (some x) g g') {b:Box} {gb:Gb} {w w':World} (h:BoxR g b gb w)
  (hw:∀ blk,gb.blk = some blk→gb.own = true→w'.heap[blk]? = w.heap[blk]?)
  (hf:∀ blk,gb.blk = some blk→gb.own = true→∀ o,g.fz blk o = none→g'.fz blk o = none):BoxR g' (b.stale x) gb w':=by
 cases b with
 | var gs =>
  obtain ⟨h1,h2,blk,cells,h3,h4,h5,h6⟩:=h
  exact ⟨h1,h2,blk,cells,h3,h4.same (hw blk h3 h2),h5.stale hx,fun o=>hf blk h3 h2 o (h6 o)⟩
 | row T fz l=>exact h.ext hx hw hf trivial
 | loop u f i env =>
  obtain ⟨h1,h2,l,tm,D,fn,cd,h3,h7,h4,h5,h6⟩:=h
  have he:EnvR g' (staleE x env) tm:=EnvR.stale hx h5
  exact ⟨h1,h2,l,tm,D,fn,cd,h3,h7,(hw l h3 h2).trans h4,he,h6.1,fun o=>hf l h3 h2 o (h6.2 o)⟩
 | map K V l=>exact h.ext hx hw hf trivial
 | dead=>exact h.ext hx hw hf trivial
theorem FzOK.grow {g:Gh} {w w':World} (h:FzOK g w) (hb:∀ b,b < w.heap.size→w'.heap[b]? = w.heap[b]?):FzOK g w':=fun b o v e=>by
 have h1:=h b o v e
 have h2:=World.block_lt_of_cell? w _ h1
 rw [← h1]
 exact World.cell?_of_block (hb b h2)
theorem BxR.grow {g:Gh} {bxs:Bxs} {w w':World} (h:BxR g bxs w) (hb:∀ b,b < w.heap.size→w'.heap[b]? = w.heap[b]?):BxR g bxs w' where
 box:=fun k b e=>by
  obtain ⟨gb,h1,h2⟩:=h.box k b e
  refine ⟨gb,h1,h2.ext (ExtBut.refl g) (fun blk e1 e2=>hb blk (h.lt ⟨k,gb,h1,e1,e2⟩)) (fun _ _ _ _ h=>h) ?_⟩
  exact boxClear_none _
 dom:=h.dom
 sep:=h.sep
theorem StR.grow {g:Gh} {s:St} {tm:Array Value} {tms:List (Array Value)} {w w':World} (h:StR g s tm tms w) (hb:∀ b,b < w.heap.size→w'.heap[b]? = w.heap[b]?):StR g s tm tms w' :=
 ⟨h.env,h.stk,h.bxs.grow hb,h.fz.grow hb⟩
theorem Tr.grow {g:Gh} {w w':World} (h:w.grownBy w' none):Tr g w g w' :=
 ⟨h.os,h.tape,h.output,h.size,fun _ _ _ h=>h,fun _ _ h=>.inl h,fun _ h=>.inl h,fun b hb _=>h.block b hb (by simp)⟩
end Go.V
namespace Go.V
variable [Codes]
def Gh.put (g:Gh) (k:Nat) (gb:Gb):Gh:={ fz:=g.fz,bx:=fun j=>if j = k then some gb else g.bx j }
theorem Gh.put_same (g:Gh) (k:Nat) (gb:Gb):(g.put k gb).bx k = some gb:=by simp [Gh.put]
theorem Gh.put_other (g:Gh) {k j:Nat} (gb:Gb) (h:j ≠ k):(g.put k gb).bx j = g.bx j:=by simp [Gh.put,h]
theorem BxR.none {g:Gh} {bxs:Bxs} {w:World} (h:BxR g bxs w) {k:Nat} (hk:find bxs k = none):g.bx k = none:=by
 cases e:g.bx k with
 | none=>rfl
 | some gb=>have:=h.dom k gb e; rw [hk] at this; cases this
theorem ext_put {g:Gh} {k:Nat} (gb:Gb) (hk:g.bx k = none):ExtBut none g (g.put k gb) :=
 ⟨fun _ _ _ h=>h,fun j gb' _ h=>by
  by_cases e:j = k
  ·subst e; rw [hk] at h; cases h
  ·rw [Gh.put_other _ _ e]; exact h,fun _ _ h _=>nomatch h⟩
theorem StR.add {g:Gh} {s:St} {tm:Array Value} {tms:List (Array Value)} {w w':World} (h:StR g s tm tms w) {key:Nat} (hk:find s.bxs key = none)
  (hw:w.grownBy w' none) (b:Box) (gb:Gb) (hb:BoxR (g.put key gb) b gb w') (ho:∀ blk,gb.blk = some blk→gb.own = true→w.heap.size≤blk) :
  StR (g.put key gb) ((Eff.add key b).apply s) tm tms w'∧Tr g w (g.put key gb) w'∧ExtBut none g (g.put key gb):=by
 have hn:=h.bxs.none hk
 have hx:=ext_put gb hn
 have hh:∀ b,b < w.heap.size→w'.heap[b]? = w.heap[b]?:=fun b hb=>hw.block b hb (by simp)
 have hg:=h.grow hh
 refine ⟨⟨hg.env.grow hx,hg.stk.grow hx,⟨?_,?_,?_⟩,fun b o v e=>hg.fz b o v e⟩,⟨hw.os,hw.tape,hw.output,hw.size,fun _ _ _ h=>h,fun _ _ h=>.inl h,?_,fun b h1 _=>hh b h1⟩,hx⟩
 ·intro k b' e
  simp only [Eff.apply] at e
  by_cases hkk:key = k
  ·subst hkk
   rw [find_cons_same] at e
   cases e
   exact ⟨gb,Gh.put_same _ _ _,hb⟩
  ·rw [find_cons_other _ _ hkk] at e
   obtain ⟨gb',e1,e2⟩:=hg.bxs.box k b' e
   refine ⟨gb',by rw [Gh.put_other _ _ (Ne.symm hkk)]; exact e1,e2.ext hx (fun _ _ _=>rfl) (fun _ _ _ _ h=>h) ?_⟩
   exact boxClear_none _
 ·intro k gb' e
  simp only [Eff.apply]
  by_cases hkk:key = k
  ·subst hkk; rw [find_cons_same]; rfl
  ·rw [Gh.put_other _ _ (Ne.symm hkk)] at e
   rw [find_cons_other _ _ hkk]
   exact h.bxs.dom k gb' e
 ·have hlt:∀ k a blk,g.bx k = some a→a.blk = some blk→a.own = true→blk < w.heap.size:=fun k a blk e1 e2 e3=>h.bxs.lt ⟨k,a,e1,e2,e3⟩
  intro k j a b' blk hne e1 e2 a1 a2 b1 b2
  by_cases hk1:k = key
  ·subst hk1
   rw [Gh.put_same] at e1
   cases e1
   rw [Gh.put_other _ _ (Ne.symm hne)] at e2
   have:=ho blk a1 a2
   have:=hlt j b' blk e2 b1 b2
   omega
  ·rw [Gh.put_other _ _ hk1] at e1
   by_cases hj:j = key
   ·subst hj
    rw [Gh.put_same] at e2
    cases e2
    have:=ho blk b1 b2
    have:=hlt k a blk e1 a1 a2
    omega
   ·rw [Gh.put_other _ _ hj] at e2
    exact h.bxs.sep k j a b' blk hne e1 e2 a1 a2 b1 b2
 ·rintro b' ⟨k,a,e1,e2,e3⟩
  by_cases hk1:k = key
  ·subst hk1
   rw [Gh.put_same] at e1
   cases e1
   exact .inr (ho b' e2 e3)
  ·rw [Gh.put_other _ _ hk1] at e1
   exact .inl ⟨k,a,e1,e2,e3⟩
def Gh.freeze (g:Gh) (blk:Nat) (cs:List Value):Gh:={ fz:=fun b o=>if b = blk then cs[o]? else g.fz b o,bx:=g.bx }
theorem grownBy_drew_alloc (w:World) (o:Obj):w.grownBy (w.drew.alloc o) none :=
 ⟨rfl,rfl,rfl,by simp,fun k hk _=>by show (w.heap.push o)[k]? = w.heap[k]?; rw [Array.getElem?_push,if_neg (by omega)]⟩
theorem StR.lit {g:Gh} {s:St} {tm:Array Value} {tms:List (Array Value)} {w:World} (h:StR g s tm tms w) (cs:List Value) (e:TypeId) :
  let w':=w.alloc (.cells cs.toArray e)
  let g':=g.freeze w.heap.size cs
  StR g' s tm tms w'∧Tr g w g' w'∧ExtBut none g g'∧Fz g'.fz w.heap.size 0 cs:=by
 intro w' g'
 have hnf:∀ o,g.fz w.heap.size o = none:=fun o=>by
  cases e:g.fz w.heap.size o with
  | none=>rfl
  | some v=>have:=h.fz.lt (b:=w.heap.size) (o:=o) (by rw [e]; simp); omega
 have hx:ExtBut none g g':=⟨fun k o v e=>by
   show (if k = w.heap.size then cs[o]? else g.fz k o) = some v
   by_cases hk:k = w.heap.size
   ·subst hk; rw [hnf] at e; cases e
   ·rw [if_neg hk]; exact e,fun _ _ _ h=>h,fun _ _ h _=>nomatch h⟩
 have hgr:w.grownBy w' none:=World.grownBy_alloc w _ none
 have hh:∀ b,b < w.heap.size→w'.heap[b]? = w.heap[b]?:=fun b hb=>hgr.block b hb (by simp)
 have hg:=h.grow hh
 refine ⟨⟨hg.env.grow hx,hg.stk.grow hx,⟨?_,fun k gb e=>h.bxs.dom k gb e,fun k j a b blk hne e1 e2=>h.bxs.sep k j a b blk hne e1 e2⟩,?_⟩,
  ⟨hgr.os,hgr.tape,hgr.output,hgr.size,hx.fz,?_,fun b ⟨k,gb,e1,e2⟩=>.inl ⟨k,gb,e1,e2⟩,fun b hb _=>hh b hb⟩,hx,?_⟩
 ·intro k b e1
  obtain ⟨gb,e2,e3⟩:=hg.bxs.box k b e1
  refine ⟨gb,e2,e3.ext hx (fun _ _ _=>rfl) (fun blk k1 k2 o k3=>?_) ?_⟩
  ·have hlt:=h.bxs.lt ⟨k,gb,e2,k1,k2⟩
   show (if blk = w.heap.size then cs[o]? else g.fz blk o) = none
   rw [if_neg (by omega)]
   exact k3
  ·exact boxClear_none _
 ·intro b o v e1
  have e1':(if b = w.heap.size then cs[o]? else g.fz b o) = some v:=e1
  by_cases hb:b = w.heap.size
  ·subst hb
   rw [if_pos rfl] at e1'
   rw [(blkIs_alloc w cs e).cell o]
   exact e1'
  ·rw [if_neg hb] at e1'
   exact hg.fz b o v e1'
 ·intro b o e1
  have e1':(if b = w.heap.size then cs[o]? else g.fz b o) ≠ none:=e1
  by_cases hb:b = w.heap.size
  ·exact .inr (.inl (by omega))
  ·rw [if_neg hb] at e1'
   exact .inl e1'
 ·intro j v e1
  show (if w.heap.size = w.heap.size then cs[0 + j]? else g.fz w.heap.size (0 + j)) = some v
  rw [if_pos rfl,Nat.zero_add]
  exact e1
theorem StR.upd {g : Gh} {s : St} {tm : Array Value} {tms : List (Array Value)} {w w' : World} (h : StR g s tm tms w) {k : Nat}
    {gb : Gb} (hg : g.bx k = some gb) {blk : Nat} (hb : gb.blk = some blk) (ho : gb.own = true) (hf : ∀ o, g.fz blk o = none)
    (os : w'.os = w.os) (tape : w'.tape = w.tape) (output : w'.output = w.output) (size : w.heap.size ≤ w'.heap.size) (hw : ∀ b, b ≠ blk → b < w.heap.size → w'.heap[b]? = w.heap[b]?)
    (b1 : Box) (hb1 : BoxR g b1 gb w') : StR g ((Eff.upd k b1).apply s) tm tms w' ∧ Tr g w g w' := by
  refine ⟨⟨h.env, h.stk, ⟨?_, ?_, h.bxs.sep⟩, ?_⟩, ⟨os, tape, output, size, fun _ _ _ h => h, fun _ _ h => .inl h, fun _ h => .inl h, fun b h1 h2 => hw b (fun e => ?_) h1⟩⟩
  · intro j b e
    simp only [Eff.apply] at e
    by_cases hj : k = j
    · subst hj
      rw [find_setB_same] at e
      cases e
      exact ⟨gb, hg, hb1⟩
    · rw [find_setB_other _ _ hj] at e
      obtain ⟨gb', e1, e2⟩ := h.bxs.box j b e
      refine ⟨gb', e1, e2.ext (ExtBut.refl g) (fun blk' k1 k2 => hw blk' (fun e => ?_) (h.bxs.lt ⟨j, gb', e1, k1, k2⟩)) (fun _ _ _ _ h => h) ?_⟩
      · subst e
        exact h.bxs.sep k j gb gb' blk' hj hg e1 hb ho k1 k2
      · exact boxClear_none _
  · intro j gb' e
    simp only [Eff.apply]
    by_cases hj : k = j
    · subst hj; rw [find_setB_same]; rfl
    · rw [find_setB_other _ _ hj]; exact h.bxs.dom j gb' e
  · intro b o v e
    by_cases hbb : b = blk
    · subst hbb; rw [hf] at e; cases e
    · have h1 := h.fz b o v e
      rw [← h1]
      exact World.cell?_of_block (hw b hbb (World.block_lt_of_cell? w _ h1))
  · subst e
    exact h2 ⟨k, gb, hg, hb, ho⟩
theorem StR.app {g : Gh} {s : St} {tm : Array Value} {tms : List (Array Value)} {w w' : World} (h : StR g s tm tms w) {k : Nat}
    {gb : Gb} (hg : g.bx k = some gb) (hr : gb.isRow = true)
    (fz' : Nat → Nat → Option Value) (gb' : Gb) (hfz : ∀ b o v, g.fz b o = some v → fz' b o = some v)
    (hnew : ∀ b o, fz' b o ≠ none → g.fz b o ≠ none ∨ w.heap.size ≤ b ∨ (gb.blk = some b ∧ gb.own = true))
    (hok : FzOK ⟨fz', fun j => if j = k then some gb' else g.bx j⟩ w')
    (os : w'.os = w.os) (tape : w'.tape = w.tape) (output : w'.output = w.output) (size : w.heap.size ≤ w'.heap.size)
    (hw : ∀ b, ¬ (gb.blk = some b ∧ gb.own = true) → b < w.heap.size → w'.heap[b]? = w.heap[b]?)
    (ho : ∀ blk, gb'.blk = some blk → gb'.own = true → w.heap.size ≤ blk ∨ (gb.blk = some blk ∧ gb.own = true))
    (b1 : Box) (hb1 : BoxR ⟨fz', fun j => if j = k then some gb' else g.bx j⟩ b1 gb' w') :
    let g' : Gh := ⟨fz', fun j => if j = k then some gb' else g.bx j⟩
    StR g' ((Eff.app k b1).apply s) tm tms w' ∧ Tr g w g' w' ∧ ExtBut (some k) g g' := by
  intro g'
  have hx : ExtBut (some k) g g' := ⟨hfz, fun j a hj e => by
      show (if j = k then some gb' else g.bx j) = some a
      rw [if_neg (fun e => hj (by rw [e]))]
      exact e, fun j a hj e => by cases hj; rw [hg] at e; cases e; exact hr⟩
  have other : ∀ j, j ≠ k → g'.bx j = g.bx j := fun j hj => by show (if j = k then some gb' else g.bx j) = _; rw [if_neg hj]
  have same : g'.bx k = some gb' := by show (if k = k then some gb' else g.bx k) = _; rw [if_pos rfl]
  refine ⟨⟨h.env.stale hx, h.stk.stale hx, ⟨?_, ?_, ?_⟩, hok⟩, ⟨os, tape, output, size, hfz, ?_, ?_, fun b h1 h2 => hw b (fun e => h2 ⟨k, gb, hg, e.1, e.2⟩) h1⟩, hx⟩
  · intro j b e
    simp only [Eff.apply] at e
    by_cases hj : k = j
    · subst hj
      rw [find_setB_same] at e
      cases e
      exact ⟨gb', same, hb1⟩
    · rw [find_setB_other _ _ hj, find_staleB] at e
      cases hf : find s.bxs j with
      | none => rw [hf] at e; cases e
      | some c =>
        rw [hf] at e
        cases e
        obtain ⟨a, e1, e2⟩ := h.bxs.box j c hf
        have hsep : ∀ blk, a.blk = some blk → a.own = true → ¬ (gb.blk = some blk ∧ gb.own = true) := fun blk k1 k2 k3 => h.bxs.sep k j gb a blk hj hg e1 k3.1 k3.2 k1 k2
        have hlt : ∀ blk, a.blk = some blk → a.own = true → blk < w.heap.size := fun blk k1 k2 => h.bxs.lt ⟨j, a, e1, k1, k2⟩
        refine ⟨a, by rw [other j (Ne.symm hj)]; exact e1, e2.extStale hx (fun blk k1 k2 => hw blk (hsep blk k1 k2) (hlt blk k1 k2)) (fun blk k1 k2 o k3 => ?_)⟩
        cases hz : fz' blk o with
        | none => exact hz
        | some v =>
          rcases hnew blk o (by rw [hz]; simp) with h1 | h1 | h1
          · exact absurd k3 h1
          · have := hlt blk k1 k2; omega
          · exact (hsep blk k1 k2 h1).elim
  · intro j a e
    simp only [Eff.apply]
    by_cases hj : k = j
    · subst hj; rw [find_setB_same]; rfl
    · rw [other j (Ne.symm hj)] at e
      rw [find_setB_other _ _ hj, find_staleB, Option.isSome_map]
      exact h.bxs.dom j a e
  · have key : ∀ j a blk, j ≠ k → g.bx j = some a → a.blk = some blk → a.own = true → gb'.blk = some blk → gb'.own = true → False := fun j a blk hj e1 a1 a2 b1 b2 => by
      rcases ho blk b1 b2 with h1 | h1
      · have := h.bxs.lt ⟨j, a, e1, a1, a2⟩; omega
      · exact h.bxs.sep k j gb a blk (Ne.symm hj) hg e1 h1.1 h1.2 a1 a2
    intro i j a b blk hne e1 e2 a1 a2 b1 b2
    by_cases hi : i = k
    · subst hi
      rw [same] at e1
      cases e1
      rw [other j (Ne.symm hne)] at e2
      exact key j b blk (Ne.symm hne) e2 b1 b2 a1 a2
    · rw [other i hi] at e1
      by_cases hj : j = k
      · subst hj
        rw [same] at e2
        cases e2
        exact key i a blk hi e1 a1 a2 b1 b2
      · rw [other j hj] at e2
        exact h.bxs.sep i j a b blk hne e1 e2 a1 a2 b1 b2
  · intro b o e
    rcases hnew b o e with h1 | h1 | h1
    · exact .inl h1
    · exact .inr (.inl h1)
    · exact .inr (.inr ⟨k, gb, hg, h1.1, h1.2⟩)
  · rintro b ⟨j, a, e1, e2, e3⟩
    by_cases hj : j = k
    · subst hj
      rw [same] at e1
      cases e1
      rcases ho b e2 e3 with h1 | h1
      · exact .inr h1
      · exact .inl ⟨j, gb, hg, h1.1, h1.2⟩
    · rw [other j hj] at e1
      exact .inl ⟨j, a, e1, e2, e3⟩
end Go.V
namespace Go.V
variable [Codes]
def eqField (i:Nat) (f:Field):Bool :=
 !(f.name == "_") && Nat.beq f.offset i
def eqFieldsOk:Nat→List Field→Bool
 | _,[]=>true
 | i,f :: l=>eqField i f && eqFieldsOk (i + 1) l
structure CfgOK (C:Cfg) (P:Program):Prop where
 int:∀ t k,C.under t = .int k→P.underlying t = some (.int k)
 bool:∀ t,C.under t = .bool→P.underlying t = some .bool
 str:∀ t,C.under t = .str→P.underlying t = some .string
 ptr:∀ t e,C.under t = .ptr e→P.underlying t = some (.pointer e)
 sl:∀ t e,C.under t = .sl e→P.underlying t = some (.slice e)
 arr:∀ t n e,C.under t = .arr n e→P.underlying t = some (.array n e)
 st:∀ t fs,C.under t = .st fs→∃ fields:Array Field,P.underlying t = some (.struct fields)∧fields.toList.map (fun f=>(f.offset,f.type)) = fs
 fn:∀ t,C.under t = .fn→∃ a b c,P.underlying t = some (.func a b c)
 iface:∀ t,C.under t = .iface→∃ ms,P.underlying t = some (.interface ms)
 map:∀ t k e,C.under t = .map k e→P.underlying t = some (.map k e)
 eqs:∀ t,C.eqs.contains t = true→P.underlying t = some (.struct (P.fieldsOf t))∧P.stoodInHeld t = false∧P.eqGuardType P.depth t = false∧eqFieldsOk 0 (P.fieldsOf t).toList = true
 size:∀ t,C.size t ≠ 0→∃ i,P.info? t = some i∧i.size = C.size t∧i.bytes = C.bytes.getD t 0
 zero:∀ t gs,C.zero t = some gs→∃ i z,P.info? t = some i∧i.size = C.size t∧i.bytes = C.bytes.getD t 0∧i.zero = some z∧∀ g,GsR g gs z.cells.toList
 ty:∀ t T,C.ty t = some T→T.size = C.size t∧∃ i z,P.info? t = some i∧i.size = C.size t∧i.bytes = C.bytes.getD t 0∧i.bytes≤65536∧i.zero = some z∧∀ fz,CR fz T T.dflt z.cells.toList
 keyTy:∀ t k,C.ty t = some (.int k)→P.underlying t = some (.int k)
 zeroTy:∀ t T,C.ty t = some T→∀ i z,P.info? t = some i→i.zero = some z→∀ fz,TV fz T T.dflt z
 zst:∀ t fs i z,C.under t = .st fs→P.info? t = some i→i.zero = some z→∃ a,z = .agg a
 zone:∀ t i z,(C.under t).agg = false→(C.under t).conc = true→P.info? t = some i→i.zero = some z→∀ a,z ≠ .agg a
section
variable {C:Cfg} {P:Program}
def CellsAt (w:World) (blk off:Nat) (cs:List Value):Prop:=∀ j v,cs[j]? = some v→w.cell? ⟨blk,off + j,none⟩ = some v
theorem Fz.cells {g:Gh} {w:World} (h:FzOK g w) {blk off:Nat} {cs:List Value} (hf:Fz g.fz blk off cs):CellsAt w blk off cs:=fun j v e=>h _ _ _ (hf j v e)
theorem BlkIs.cellsAt {w:World} {blk:Nat} {cells:List Value} (h:BlkIs w blk cells) (off:Nat):CellsAt w blk off (cells.drop off):=fun j v e=>by
 rw [h.cell]
 simpa using e
theorem CellsAt.drop {w:World} {blk off:Nat} {cs:List Value} (h:CellsAt w blk off cs) (n:Nat):CellsAt w blk (off + n) (cs.drop n):=fun j v e=>by
 have:=h (n + j) v (by simpa using e)
 rwa [← Nat.add_assoc] at this
theorem CellsAt.take {w:World} {blk off:Nat} {cs:List Value} (h:CellsAt w blk off cs) (n:Nat):CellsAt w blk off (cs.take n):=fun j v e=>by
 refine h j v ?_
 rw [List.getElem?_take] at e
 split at e
 ·exact e
 ·cases e
theorem CellsAt.left {w:World} {blk off:Nat} {a b:List Value} (h:CellsAt w blk off (a++b)):CellsAt w blk off a:=by
 have:=h.take a.length
 rwa [List.take_left] at this
theorem CellsAt.right {w:World} {blk off:Nat} {a b:List Value} (h:CellsAt w blk off (a++b)):CellsAt w blk (off + a.length) b:=by
 have:=h.drop a.length
 rwa [List.drop_left] at this
theorem add_lit' (blk off j:Nat):(⟨blk,off,none⟩:Addr).add j = ⟨blk,off + j,none⟩:=by
 unfold Addr.add
 split
 ·rename_i h; subst h; simp
 ·rfl
theorem run_loadCells' {w:World} {blk off:Nat} {cs:List Value} (h:CellsAt w blk off cs):(loadCells ⟨blk,off,none⟩ cs.length).run P w = .ok cs.toArray w :=
 run_loadCells_list w _ cs (fun j v e=>by rw [add_lit']; exact h j v e)
theorem run_sizeOf {w:World} {t:TypeId} {i:TypeInfo} (h:P.info? t = some i):(sizeOf t).run P w = .ok i.size w:=by
 simp [sizeOf,typeInfo,h]
def aggB:TypeDesc→Bool
 | .struct _ | .array _ _=>true
 | _=>false
theorem run_isAgg {w:World} {t:TypeId} {d:TypeDesc} (h:P.underlying t = some d):(isAgg t).run P w = .ok (aggB d) w:=by
 unfold isAgg
 rw [Sem.run_bind,run_underlying h w]
 cases d <;> simp [aggB]
theorem run_loadVar_agg {w : World} {t : TypeId} {i : TypeInfo} {d : TypeDesc} (hi : P.info? t = some i) (hd : P.underlying t = some d) (ha : (aggB d) = true)
    {blk off : Nat} {cs : List Value} (h : CellsAt w blk off cs) (hl : cs.length = i.size) : (loadVar t ⟨blk, off, none⟩).run P w = .ok (.agg cs.toArray) w := by
  unfold loadVar
  rw [Sem.run_bind, run_isAgg hd, ha]
  simp only [Result.andThen_ok, if_true, Sem.run_bind, run_sizeOf hi, ← hl, run_loadCells' h, Sem.run_pure]
theorem run_loadVar_one {w : World} {t : TypeId} {d : TypeDesc} (hd : P.underlying t = some d) (ha : (aggB d) = false)
    {a : Addr} {c : Value} (h : w.cell? a = some c) : (loadVar t a).run P w = .ok c w := by
  unfold loadVar
  rw [Sem.run_bind, run_isAgg hd, ha]
  simp [run_load, h]
theorem GR.single_one {g:Gh} {v:AV} {cs:List Value} (h:GR g v cs) (hs:v.single = true):∃ c,cs = [c]:=by
 have hl:=h.length
 have:v.size = 1:=by
  cases v <;> simp only [AV.single,Bool.false_eq_true] at hs <;> try rfl
  case val T x=>cases T <;> simp only [Bool.false_eq_true] at hs <;> rfl
 rw [this] at hl
 match cs,hl with
 | [c],_=>exact ⟨c,rfl⟩
theorem loadAt_all (hC:CfgOK C P) {g:Gh} {t:Nat} {gs:List AV} {c:Bool} {v:AV} {e:Eff} (h:loadAt C t gs = some (c,v,e)) {blk off:Nat} {cs:List Value}
  (hg:GsR g gs cs):e = .none∧∃ x,(∀ w,CellsAt w blk off cs→(loadVar t ⟨blk,off,none⟩).run P w = .ok x w)∧VR1 g v x:=by
 unfold loadAt at h
 split at h
 ·rename_i fs hu
  split at h
  ·cases h
  ·rename_i hz
   split at h
   ·rename_i gs' ht
    simp only [ok,Option.some.injEq,Prod.mk.injEq] at h
    obtain ⟨_,rfl,rfl⟩:=h
    obtain ⟨h1,h2⟩:=takeGs_rel ht hg
    obtain ⟨fields,hd,_⟩:=hC.st _ _ hu
    obtain ⟨i,hi,hs,_⟩:=hC.size t hz
    exact ⟨rfl,_,fun w hw=>run_loadVar_agg hi hd rfl (hw.take (C.size t)) (by rw [List.length_take,hs]; omega),_,rfl,by simpa using h2⟩
   ·cases h
 ·rename_i n e' hu
  split at h
  ·rename_i m T l gs'
   split at h
   ·rename_i hnm
    simp only [ok,Option.some.injEq,Prod.mk.injEq] at h
    obtain ⟨_,rfl,rfl⟩:=h
    obtain ⟨c1,c2,rfl,h1,h2⟩:=hg
    refine ⟨rfl,?_⟩
    have hl:=CR.length h1
    obtain ⟨i,hi,hs,_⟩:=hC.size t hnm.2.2
    exact ⟨_,fun w hw=>run_loadVar_agg hi (hC.arr _ _ _ hu) rfl hw.left (by rw [hl,hs,hnm.2.1]; rfl),_,rfl,h1⟩
   ·cases h
  ·cases h
 ·cases h
 ·cases h
 ·rename_i h1 h2 h3 h4
  split at h
  ·rename_i v' gs'
   split at h
   ·rename_i hs
    simp only [ok,Option.some.injEq,Prod.mk.injEq] at h
    obtain ⟨_,rfl,rfl⟩:=h
    obtain ⟨c1,c2,rfl,k1,k2⟩:=hg
    obtain ⟨x,rfl⟩:=k1.single_one hs
    refine ⟨rfl,x,fun w hw=>?_,(vr1_single hs).2 k1⟩
    have hc:w.cell? ⟨blk,off,none⟩ = some x:=by have:=hw 0 x (by simp); simpa using this
    cases hu:C.under t with
    | int k=>exact run_loadVar_one (hC.int _ _ hu) rfl hc
    | bool=>exact run_loadVar_one (hC.bool _ hu) rfl hc
    | str=>exact run_loadVar_one (hC.str _ hu) rfl hc
    | ptr e=>exact run_loadVar_one (hC.ptr _ _ hu) rfl hc
    | sl e=>exact run_loadVar_one (hC.sl _ _ hu) rfl hc
    | arr n e=>exact (h2 _ _ hu).elim
    | st fs=>exact (h1 _ hu).elim
    | fn=>obtain ⟨_,_,_,hd⟩:=hC.fn _ hu; exact run_loadVar_one hd rfl hc
    | iface=>obtain ⟨_,hd⟩:=hC.iface _ hu; exact run_loadVar_one hd rfl hc
    | map k e=>exact run_loadVar_one (hC.map _ _ _ hu) rfl hc
    | tup=>exact (h4 hu).elim
    | oth=>exact (h3 hu).elim
   ·cases h
  ·cases h
theorem loadAt_ok (hC:CfgOK C P) {g:Gh} {w:World} {t:Nat} {gs:List AV} {c:Bool} {v:AV} {e:Eff} (h:loadAt C t gs = some (c,v,e)) {blk off:Nat} {cs:List Value}
  (hg:GsR g gs cs) (hw:CellsAt w blk off cs):e = .none∧∃ x,(loadVar t ⟨blk,off,none⟩).run P w = .ok x w∧VR1 g v x:=by
 obtain ⟨e1,x,h1,h2⟩:=loadAt_all hC h (blk:=blk) (off:=off) hg
 exact ⟨e1,x,h1 w hw,h2⟩
theorem stepsOff_cons (s:Stp) (p:List Stp):stepsOff (s :: p) = s.i.toNat * s.sz + s.o + stepsOff p:=rfl
theorem at_lt {T:Ty} {l:List T.den} {i:Int} (h0:0≤i) (h1:i < l.length):at_ T l i = l[i.toNat]'(by omega):=by
 unfold at_
 rw [List.getD_eq_getElem?_getD,List.getElem?_eq_getElem (by omega)]
 rfl
theorem arr_get {fz:Nat→Nat→Option Value} {n:Nat} {T:Ty} {l:List T.den} {cs:List Value} (h:CR fz (.arr n T) l cs) {i:Int} (h0:0≤i) (h1:i < n) :
  ∃ a c b,cs = a++(c++b)∧a.length = i.toNat * T.size∧CR fz T (at_ T l i) c:=by
 obtain ⟨hl,he⟩:=h
 obtain ⟨a,c,b,e,ha,hc,_⟩:=he.get (n:=T.size) (fun x cs h=>h.length) i.toNat (by omega)
 exact ⟨a,c,b,e,ha,by rw [at_lt h0 (by omega)]; exact hc⟩
theorem gsAt_ok {g:Gh} {w:World} {blk:Nat}:∀ {p:List Stp} {gs gs':List AV} {off:Nat} {cs:List Value},gsAt gs p = some gs'→GsR g gs cs→CellsAt w blk off cs→(∀ s∈p,0≤s.i∧s.i < s.n) →
  ∃ cs',GsR g gs' cs'∧CellsAt w blk (off + stepsOff p) cs'
 | [],gs,gs',off,cs,h,hg,hw,_=>by
  cases gs <;> (simp only [gsAt,Option.some.injEq] at h; subst h; exact ⟨cs,hg,by simpa [stepsOff] using hw⟩)
 | s :: p,gs,gs',off,cs,h,hg,hw,hp=>by
  unfold gsAt at h
  split at h
  ·rename_i he; cases he
  ·rename_i n T l gs1 s' p' he
   obtain ⟨rfl,rfl⟩:=List.cons.inj he
   split at h
   ·rename_i hn
    split at h
    ·rename_i gs2 hd
     obtain ⟨c1,c2,rfl,h1,h2⟩:=hg
     obtain ⟨q0,q1⟩:=hp s (by simp)
     obtain ⟨a,c,b,rfl,ha,hc⟩:=arr_get (fz:=g.fz) (n:=n) (T:=T) h1 q0 (by omega)
     obtain ⟨h3,h4⟩:=dropGs_rel hd (gsR_gs hc)
     have hw1:CellsAt w blk (off + s.i.toNat * s.sz) c:=by
      have:=hw.left.right
      rw [ha,hn.2] at this
      exact this.left
     obtain ⟨cs',h5,h6⟩:=gsAt_ok h h4 (hw1.drop s.o) (fun s hs=>hp s (List.mem_cons_of_mem _ hs))
     refine ⟨cs',h5,?_⟩
     rw [stepsOff_cons]
     have e:off + s.i.toNat * s.sz + s.o + stepsOff p = off + (s.i.toNat * s.sz + s.o + stepsOff p):=by omega
     rwa [e] at h6
    ·cases h
   ·cases h
  ·cases h
theorem row_get {g:Gh} {w:World} (hf:FzOK g w) {T:Ty} {fz:Bool} {l:List T.den} {gb:Gb} (h:BoxR g (.row T fz l) gb w) {blk:Nat} (hb:gb.blk = some blk) :
  ∃ cs,Elems (CR g.fz T) l cs∧CellsAt w blk gb.off cs:=by
 obtain ⟨_,_,_,_,h5⟩:=h
 cases ho:gb.own with
 | false =>
  simp only [hb,ho] at h5
  obtain ⟨_,_,cs,k3,k4⟩:=h5
  exact ⟨cs,k3,k4.cells hf⟩
 | true =>
  simp only [hb,ho] at h5
  obtain ⟨cells,cs,k1,k2,k3,k4,_⟩:=h5
  exact ⟨cs,k3,fun j v e=>by rw [k1.cell]; exact k4 j v e⟩
theorem elems_at {fz:Nat→Nat→Option Value} {w:World} {blk off:Nat} {T:Ty} {l:List T.den} {cs:List Value} (h:Elems (CR fz T) l cs) (hw:CellsAt w blk off cs) {i:Int} (h0:0≤i) (h1:i < l.length) :
  ∃ c,CR fz T (at_ T l i) c∧CellsAt w blk (off + i.toNat * T.size) c:=by
 obtain ⟨a,c,b,rfl,ha,hc,_⟩:=h.get (n:=T.size) (fun x cs h=>h.length) i.toNat (by omega)
 refine ⟨c,by rw [at_lt h0 h1]; exact hc,?_⟩
 have:=hw.right
 rw [ha] at this
 exact this.left
theorem loadV_ok (hC:CfgOK C P) {g:Gh} {s:St} {tm:Array Value} {tms:List (Array Value)} {w:World} (hs:StR g s tm tms w) {t:Nat} {a:AV} {c:Bool} {v:AV} {e:Eff}
  (h:loadV C s.bxs t a = some (c,v,e)) {x:Value} (ha:VR g a x):e = .none∧∃ y,(Instr.loadAt t x).run P w = .ok y w∧VR1 g v y:=by
 have main:∀ (blk off:Nat) (gs:List AV) (cs:List Value),loadAt C t gs = some (c,v,e)→GsR g gs cs→CellsAt w blk off cs→x = .pointer (some ⟨blk,off,none⟩) →
   e = .none∧∃ y,(Instr.loadAt t x).run P w = .ok y w∧VR1 g v y:=by
  intro blk off gs cs h1 h2 h3 hx
  obtain ⟨e1,y,h4,h5⟩:=loadAt_ok hC h1 h2 h3
  refine ⟨e1,y,?_,h5⟩
  subst hx
  simp only [Instr.loadAt,Instr.sureAddr,Sem.run_bind,Sem.run_pure,Result.andThen_ok]
  exact h4
 unfold loadV at h
 split at h
 ·rename_i gs
  have ha':GR g (.eptr gs) [x]:=ha
  obtain ⟨blk,off,cs',e1,h1,h2⟩:=ha'
  simp only [List.cons.injEq,and_true] at e1
  exact main blk off gs cs' h h1.gsR (h2.cells hs.fz) e1
 ·rename_i b off p
  have ha':GR g (.ptr b off p) [x]:=ha
  obtain ⟨gb,blk,e1,e2,e3,e4,e5⟩:=ha'
  simp only [List.cons.injEq,and_true] at e5
  split at h
  ·rename_i gs hb
   split at h
   ·rename_i gs1 hd
    split at h
    ·rename_i gs2 hp
     obtain ⟨gb',k1,k2⟩:=hs.bxs.box _ _ hb
     rw [e1] at k1
     cases k1
     obtain ⟨_,_,blk',cells,k3,k4,k5,_⟩:=k2
     rw [e3] at k3
     cases k3
     obtain ⟨_,h2⟩:=dropGs_rel hd k5
     obtain ⟨cs',h3,h4⟩:=gsAt_ok hp h2 (k4.cellsAt off) e4
     exact main blk _ gs2 cs' h h3 h4 e5
    ·cases h
   ·cases h
  ·cases h
 ·rename_i b i o
  have ha':GR g (.rptr b i o) [x]:=ha
  obtain ⟨gb,blk,e1,e2,e3,e4,e5,e6⟩:=ha'
  simp only [List.cons.injEq,and_true] at e6
  split at h
  ·rename_i T fz l hb
   split at h
   ·rename_i gs1 hd
    obtain ⟨gb',k1,k2⟩:=hs.bxs.box _ _ hb
    rw [e1] at k1
    cases k1
    obtain ⟨cs,k3,k4⟩:=row_get hs.fz k2 e3
    have hsz:gb.sz = T.size:=k2.2.1
    have hlen:gb.len = l.length:=k2.2.2.1
    obtain ⟨c',k5,k6⟩:=elems_at k3 k4 e4 (by omega)
    obtain ⟨_,h2⟩:=dropGs_rel hd (gsR_gs k5)
    exact main blk _ gs1 _ h h2 (k6.drop o) (by rw [e6,hsz])
   ·cases h
  ·cases h
 ·cases h
end
end Go.V
namespace Go.V
variable [Codes]
section
variable {C:Cfg} {P:Program}
structure StW (w w':World) (blk:Nat):Prop where
 os:w'.os = w.os
 tape:w'.tape = w.tape
 output:w'.output = w.output
 size:w'.heap.size = w.heap.size
 other:∀ b,b ≠ blk→w'.heap[b]? = w.heap[b]?
theorem StW.refl (w:World) (blk:Nat):StW w w blk:=⟨rfl,rfl,rfl,rfl,fun _ _=>rfl⟩
theorem StW.trans {a b c:World} {blk:Nat} (h:StW a b blk) (k:StW b c blk):StW a c blk :=
 ⟨k.os.trans h.os,k.tape.trans h.tape,k.output.trans h.output,k.size.trans h.size,fun b hb=>(k.other b hb).trans (h.other b hb)⟩
theorem stW_setCell (w:World) (a:Addr) (v:Value):StW w (w.setCell a v) a.block :=
 ⟨rfl,rfl,rfl,by simp,fun b hb=>heap_setCell_other w a b v hb⟩
theorem BlkIs.setCell {w:World} {blk:Nat} {cells:List Value} (h:BlkIs w blk cells) (o:Nat) (v:Value):BlkIs (w.setCell ⟨blk,o,none⟩ v) blk (cells.set o v):=by
 obtain ⟨e,lo,hi,h1,h2⟩:=h
 refine ⟨e,lo,hi,?_,fun j hj=>h2 j (by simpa using hj)⟩
 simp only [World.setCell,Array.getElem?_modify,if_true,h1,Option.map_some]
 simp
theorem run_storeCells_blk {blk off:Nat}:∀ (vs:List Value) (i:Nat) {w:World} {cells:List Value},BlkIs w blk cells→off + i + vs.length≤cells.length→(∀ v∈vs,v.oneCell' = true) →
  ∃ w',(storeCells ⟨blk,off,none⟩ vs i).run P w = .ok () w'∧StW w w' blk∧BlkIs w' blk (cells.take (off + i)++vs++cells.drop (off + i + vs.length))
 | [],i,w,cells,h,hl,_=>⟨w,by simp [storeCells],StW.refl w blk,by simpa using h⟩
 | v :: vs,i,w,cells,h,hl,h1=>by
  simp only [List.length_cons] at hl
  have hc:w.cell? ⟨blk,off + i,none⟩ = some cells[off + i]:=by rw [h.cell,List.getElem?_eq_getElem (by omega)]
  have hf:=h.frozen (o:=off + i) (by omega)
  have hs:=h.setCell (off + i) v
  obtain ⟨w',h3,h4,h5⟩:=run_storeCells_blk (off:=off) vs (i + 1) hs (by simp; omega) (fun u hu=>h1 u (List.mem_cons_of_mem _ hu))
  refine ⟨w',?_,(stW_setCell w ⟨blk,off + i,none⟩ v).trans h4,?_⟩
  ·simp only [storeCells,Sem.run_bind,add_lit',run_store P w _ v .plain (h1 v (by simp)),hc,hf,Bool.false_eq_true,if_false,Result.andThen_ok]
   exact h3
  ·have e:(cells.set (off + i) v).take (off + (i + 1))++vs++(cells.set (off + i) v).drop (off + (i + 1) + vs.length) = cells.take (off + i)++v :: vs++cells.drop (off + i + (v :: vs).length):=by
    have e1:(cells.set (off + i) v).drop (off + (i + 1) + vs.length) = cells.drop (off + i + (v :: vs).length):=by
     rw [List.drop_set_of_lt (show off + i < off + (i + 1) + vs.length by omega)]
     congr 1
     simp only [List.length_cons]
     omega
    have e2:(cells.set (off + i) v).take (off + (i + 1)) = cells.take (off + i)++[v]:=by
     rw [show off + (i + 1) = (off + i) + 1 by omega,List.take_succ_eq_append_getElem (show off + i < (cells.set (off + i) v).length by simp; omega),List.take_set_of_le (Nat.le_refl _)]
     simp
    rw [e1,e2]
    simp
   rwa [e] at h5
theorem run_storeVar {t:TypeId} {i:TypeInfo} (hi:P.info? t = some i) {blk off:Nat} {w:World} {cells:List Value} {v:Value} (h:BlkIs w blk cells) (hl:v.cells.toList.length = i.size)
  (hb:off + i.size≤cells.length) (h1:∀ c∈v.cells.toList,c.oneCell' = true) :
  ∃ w',(storeVar t ⟨blk,off,none⟩ v).run P w = .ok () w'∧StW w w' blk∧BlkIs w' blk (cells.take off++v.cells.toList++cells.drop (off + i.size)):=by
 obtain ⟨w',h3,h4,h5⟩:=run_storeCells_blk (P:=P) (off:=off) v.cells.toList 0 h (by rw [hl]; omega) h1
 refine ⟨w',?_,h4,by simpa [← hl] using h5⟩
 have hs:¬ (v.cells.size ≠ i.size):=by rw [← hl]; simp
 simp only [storeVar,Sem.run_bind,run_sizeOf hi,Result.andThen_ok,hs,if_false]
 exact h3
theorem conv_ok {g:Gh} {bxs:Bxs} {w:World} (hb:BxW g bxs w) (_hf:FzOK g w) {T:Ty} {v:AV} {x:T.den} (h:conv bxs T v = some x) {cs:List Value} (hg:GR g v cs):CR g.fz T x cs:=by
 unfold conv at h
 split at h
 ·split at h
  ·rename_i S y e
   subst e
   simp only [Option.some.injEq] at h
   subst h
   exact hg
  ·cases h
 ·split at h
  ·rename_i S l e
   subst e
   simp only [Option.some.injEq] at h
   subst h
   rcases hg with ⟨rfl,_,rfl⟩ | ⟨blk,off,cs',rfl,h1,h2⟩
   ·exact ⟨_,rfl,.inl ⟨rfl,_,rfl⟩⟩
   ·exact ⟨_,rfl,.inr ⟨blk,off,l.length,cs',rfl,Nat.le_refl _,h1,h2⟩⟩
  ·cases h
 ·split at h
  ·rename_i S l e
   subst e
   simp only [Option.some.injEq] at h
   subst h
   rcases hg with ⟨rfl,_,rfl⟩ | ⟨blk,off,cap,cs',rfl,h0,h1,h2⟩
   ·exact ⟨_,rfl,.inl ⟨rfl,_,rfl⟩⟩
   ·exact ⟨_,rfl,.inr ⟨blk,off,cap,cs',rfl,h0,h1,h2⟩⟩
  ·cases h
 ·split at h
  ·simp only [Option.some.injEq] at h
   subst h
   have:cs = [.slice none 0 0]:=hg
   subst this
   exact ⟨_,rfl,.inl ⟨rfl,_,rfl⟩⟩
  ·cases h
 ·rename_i b wn
  split at h
  ·rename_i S l hfd
   split at h
   ·rename_i e
    subst e
    simp only [Option.some.injEq] at h
    subst h
    obtain ⟨gb,v,e1,e2,rfl,hw⟩:=hg
    obtain ⟨gb',k1,k2⟩:=hb.box _ _ hfd
    rw [e1] at k1
    cases k1
    refine ⟨v,rfl,?_⟩
    obtain ⟨_,hsz,hlen,hcap,hr⟩:=k2
    have hcont:∀ blk,gb.blk = some blk→∃ cs,Elems (CR g.fz S) l cs∧Fz g.fz blk gb.off cs:=by
     intro blk hblk
     cases ho:gb.own with
     | false=>simp only [hblk,ho] at hr; obtain ⟨_,_,cs,k3,k4⟩:=hr; exact ⟨cs,k3,k4⟩
     | true=>simp only [hblk,ho] at hr; obtain ⟨cells,cs,_,_,k3,_,_,k6⟩:=hr; exact ⟨cs,k3,(k6 trivial).1⟩
    cases hblk:gb.blk with
    | none =>
     simp only [hblk] at hr
     obtain ⟨rfl,_⟩:=hr
     cases wn with
     | whole=>simp only [WinR,hblk] at hw; exact .inl ⟨rfl,_,hw.1⟩
     | part off n full=>simp only [WinR,hblk] at hw; exact .inl ⟨by simp [Win.app],_,hw.2.2.2⟩
    | some blk =>
     obtain ⟨cs,k3,k4⟩:=hcont blk hblk
     cases wn with
     | whole =>
      simp only [WinR,hblk] at hw
      exact .inr ⟨blk,gb.off,gb.cap,cs,by rw [hw,hlen]; rfl,by show l.length≤_; omega,k3,k4⟩
     | part off n full =>
      simp only [WinR,hblk] at hw
      obtain ⟨w1,a,c,rfl,wsp,w2,w3,w4,w5⟩:=hw
      have hlw:(Win.app (.part off n full) l).length = n:=by simp only [Win.app,List.length_take,List.length_drop]; omega
      by_cases hn:n = 0
      ·have he:Win.app (.part off n full) l = []:=List.eq_nil_of_length_eq_zero (by rw [hlw,hn])
       rw [he]
       exact .inr ⟨a.block,a.off,c,[],by obtain ⟨ab,ao,as⟩:=a; simp only at wsp; subst wsp; simp [hn],by simp,rfl,fun j v e=>by simp at e⟩
      ·have ha:a = ⟨blk,gb.off + off * gb.sz,none⟩:=by
        rcases w5 with h0 | h0
        ·omega
        ·exact h0
       have hs1:=k3.split (n:=S.size) (fun x cs h=>h.length) off (by omega)
       have hs2:=hs1.2.split (n:=S.size) (fun x cs h=>h.length) n (by rw [List.length_drop]; omega)
       refine .inr ⟨blk,gb.off + off * gb.sz,c,(cs.drop (off * S.size)).take (n * S.size),by rw [hlw,ha],by rw [hlw]; exact w2,hs2.1,?_⟩
       intro j v e
       rw [List.getElem?_take] at e
       split at e
       ·rw [List.getElem?_drop] at e
        rw [hsz,Nat.add_assoc]
        exact k4 _ v e
       ·cases e
   ·cases h
  ·cases h
 ·cases h
theorem rd_ok {g:Gh} {bxs:Bxs} {w:World} (hb:BxW g bxs w) (hf:FzOK g w):∀ {T:Ty} {gs:List AV} {x:T.den} {rest:List AV},T.rd bxs gs = some (x,rest)→∀ {cs:List Value},GsR g gs cs →
  ∃ c1 c2,cs = c1++c2∧CR g.fz T x c1∧GsR g rest c2
 | .unit,gs,x,rest,h,cs,hg=>by
  simp only [Ty.rd,Option.some.injEq,Prod.mk.injEq] at h
  obtain ⟨_,rfl⟩:=h
  exact ⟨[],cs,rfl,rfl,hg⟩
 | .pair a b,gs,x,rest,h,cs,hg=>by
  simp only [Ty.rd] at h
  split at h
  ·rename_i y l1 h1
   split at h
   ·rename_i z l2 h2
    simp only [Option.some.injEq,Prod.mk.injEq] at h
    obtain ⟨rfl,rfl⟩:=h
    obtain ⟨c1,c2,rfl,k1,k2⟩:=rd_ok hb hf h1 hg
    obtain ⟨c3,c4,rfl,k3,k4⟩:=rd_ok hb hf h2 k2
    exact ⟨c1++c3,c4,by simp,⟨c1,c3,rfl,k1,k3⟩,k4⟩
   ·cases h
  ·cases h
 | .int k,gs,x,rest,h,cs,hg=>one (T:=.int k) hb hf (by intro l; cases l <;> rfl) h hg
 | .bool,gs,x,rest,h,cs,hg=>one (T:=.bool) hb hf (by intro l; cases l <;> rfl) h hg
 | .str,gs,x,rest,h,cs,hg=>one (T:=.str) hb hf (by intro l; cases l <;> rfl) h hg
 | .sl e,gs,x,rest,h,cs,hg=>one (T:=.sl e) hb hf (by intro l; cases l <;> rfl) h hg
 | .arr n e,gs,x,rest,h,cs,hg=>one (T:=.arr n e) hb hf (by intro l; cases l <;> rfl) h hg
 where
 one {g:Gh} {bxs:Bxs} {w:World} (hb:BxW g bxs w) (hf:FzOK g w) {T:Ty} (hT:∀ l,T.rd bxs l = match l with
   | []=>none
   | v :: l=>match conv bxs T v with
    | some x=>some (x,l)
    | none=>none) {gs:List AV} {x:T.den} {rest:List AV} (h:T.rd bxs gs = some (x,rest)) {cs:List Value} (hg:GsR g gs cs) :
   ∃ c1 c2,cs = c1++c2∧CR g.fz T x c1∧GsR g rest c2:=by
  rw [hT] at h
  cases gs with
  | nil=>cases h
  | cons v l =>
   simp only at h
   split at h
   ·rename_i y hy
    simp only [Option.some.injEq,Prod.mk.injEq] at h
    obtain ⟨rfl,rfl⟩:=h
    obtain ⟨c1,c2,e,k1,k2⟩:=hg
    exact ⟨c1,c2,e,conv_ok hb hf hy k1,k2⟩
   ·cases h
theorem rd_all {g:Gh} {bxs:Bxs} {w:World} (hb:BxW g bxs w) (hf:FzOK g w) {T:Ty} {gs:List AV} {x:T.den} (h:T.rd bxs gs = some (x,[])) {cs:List Value} (hg:GsR g gs cs):CR g.fz T x cs:=by
 obtain ⟨c1,c2,rfl,h1,h2⟩:=rd_ok hb hf h hg
 have:c2 = []:=h2
 subst this
 simpa using h1
theorem put_ok {g:Gh} {bxs:Bxs} {w:World} (hb:BxW g bxs w) (hf:FzOK g w) {T:Ty} {x y:T.den} {o:Nat} {new:List AV} (h:T.put bxs x o new = some y) {cs ns:List Value} (hx:CR g.fz T x cs)
  (hn:GsR g new ns):o + ns.length≤cs.length∧CR g.fz T y (cs.take o++ns++cs.drop (o + ns.length)):=by
 unfold Ty.put at h
 split at h
 ·rename_i gs h1
  split at h
  ·rename_i z h2
   simp only [Option.some.injEq] at h
   subst h
   obtain ⟨k1,k2⟩:=putGs_rel hn h1 (gsR_gs hx)
   exact ⟨k1,rd_all hb hf h2 k2⟩
  ·cases h
 ·cases h
theorem take_mid {α:Type} (p a c b d:List α) (k:Nat) (hk:k≤c.length):(p++((a++(c++b))++d)).take (p.length + (a.length + k)) = p++(a++c.take k):=by
 have h1:p++((a++(c++b))++d) = p++(a++(c.take k++(c.drop k++(b++d)))):=by
  rw [← List.append_assoc (c.take k),List.take_append_drop]
  simp
 rw [h1,← List.append_assoc,← List.append_assoc,List.take_left' (by simp; omega)]
 simp
theorem drop_mid {α:Type} (p a c b d:List α) (k:Nat) (hk:k≤c.length):(p++((a++(c++b))++d)).drop (p.length + (a.length + k)) = c.drop k++b++d:=by
 have h1:p++((a++(c++b))++d) = p++(a++(c.take k++(c.drop k++(b++d)))):=by
  rw [← List.append_assoc (c.take k),List.take_append_drop]
  simp
 rw [h1,← List.append_assoc,← List.append_assoc,List.drop_left' (by simp; omega)]
 simp
theorem putAt_ok {g:Gh} {bxs:Bxs} {w:World} (hb:BxW g bxs w) (hf:FzOK g w) {new:List AV} {ns:List Value} (hn:GsR g new ns):∀ {p:List Stp} {gs gs':List AV} {off:Nat},putAt bxs gs off p new = some gs' →
  ∀ {cs:List Value},GsR g gs cs→(∀ s∈p,0≤s.i∧s.i < s.n) →
  off + stepsOff p + ns.length≤cs.length∧GsR g gs' (cs.take (off + stepsOff p)++ns++cs.drop (off + stepsOff p + ns.length))
 | [],gs,gs',off,h,cs,hg,_=>by simpa [stepsOff] using putGs_rel hn (show putGs gs off new = some gs' by simpa [putAt] using h) hg
 | s :: p,gs,gs',off,h,cs,hg,hp=>by
  simp only [putAt] at h
  split at h
  ·rename_i n T l gs1 hd
   split at h
   ·rename_i hns
    split at h
    ·rename_i es hes
     split at h
     ·rename_i y hy
      obtain ⟨h1,h2⟩:=dropGs_rel hd hg
      obtain ⟨c1,c2,e12,k1,k2⟩:=h2
      obtain ⟨q0,q1⟩:=hp s (by simp)
      have hT:∀ (x:T.den) (cs:List Value),CR g.fz T x cs→cs.length = T.size:=fun x cs h=>h.length
      have hi:s.i.toNat < l.length:=by have:=k1.1; omega
      obtain ⟨a,c,b,rfl,ha,hc⟩:=arr_get (fz:=g.fz) k1 q0 (by omega)
      obtain ⟨h3,h4⟩:=putAt_ok hb hf hn hes (gsR_gs hc) (fun s hs=>hp s (List.mem_cons_of_mem _ hs))
      have h5:=rd_all hb hf hy h4
      have hlc:c.length = T.size:=hc.length
      obtain ⟨a',b',c0,ea,ha',_,hset⟩:=k1.2.set hT s.i.toNat hi h5
      have hcl:c0.length = T.size:=by
       have e1:=congrArg List.length ea
       have e2:=(k1.2.split hT s.i.toNat (by omega)).1
       have e3:=hset.length hT
       simp only [List.length_append,List.length_set,List.length_take,List.length_drop] at e1 e3
       have e4:=k1.2.length hT
       simp only [List.length_append] at e4
       omega
      obtain ⟨rfl,e2⟩:=List.append_inj ea (by rw [ha,ha'])
      obtain ⟨rfl,rfl⟩:=List.append_inj e2 (by rw [hlc,hcl])
      have h6:CR g.fz (.arr n T) (l.set s.i.toNat y) (a++((c.take (s.o + stepsOff p)++ns++c.drop (s.o + stepsOff p + ns.length))++b)):=⟨by simpa using k1.1,hset⟩
      have h7:GsR g [.val (.arr n T) (l.set s.i.toNat y)] (a++((c.take (s.o + stepsOff p)++ns++c.drop (s.o + stepsOff p + ns.length))++b)):=⟨_,[],by simp,h6,rfl⟩
      obtain ⟨h8,h9⟩:=putGs_rel h7 h hg
      have hlen:(a++((c.take (s.o + stepsOff p)++ns++c.drop (s.o + stepsOff p + ns.length))++b)).length = (a++(c++b)).length:=by
       simp only [List.length_append,List.length_take,List.length_drop]
       omega
      rw [hlen] at h8 h9
      have hcs:cs = cs.take off++((a++(c++b))++c2):=by rw [← e12,List.take_append_drop]
      have hto:(cs.take off).length = off:=by rw [List.length_take]; omega
      rw [stepsOff_cons]
      refine ⟨?_,?_⟩
      ·have:=congrArg List.length hcs
       simp only [List.length_append] at this
       rw [← hns.2,← ha]
       omega
      ·have hd2:cs.drop (off + (a++(c++b)).length) = c2:=by
        rw [← List.drop_drop,e12,List.drop_left]
       rw [hd2] at h9
       have t1:cs.take (off + (s.i.toNat * s.sz + s.o + stepsOff p)) = cs.take off++(a++c.take (s.o + stepsOff p)):=by
        have h:=take_mid (cs.take off) a c b c2 (s.o + stepsOff p) (by omega)
        rw [← hcs,hto] at h
        rw [← h,← hns.2,← ha]
        congr 1
        omega
       have t2:cs.drop (off + (s.i.toNat * s.sz + s.o + stepsOff p) + ns.length) = c.drop (s.o + stepsOff p + ns.length)++b++c2:=by
        have h:=drop_mid (cs.take off) a c b c2 (s.o + stepsOff p + ns.length) (by omega)
        rw [← hcs,hto] at h
        rw [← h,← hns.2,← ha]
        congr 1
        omega
       rw [t1,t2]
       simpa [List.append_assoc] using h9
     ·cases h
    ·cases h
   ·cases h
  ·cases h
end
end Go.V
namespace Go.V
variable [Codes]
section
variable {C:Cfg} {P:Program}
theorem splice_get {α:Type} (l ns:List α) (k j:Nat) (h:k + ns.length≤l.length) :
  (l.take k++ns++l.drop (k + ns.length))[j]? = if j < k then l[j]? else if j < k + ns.length then ns[j - k]? else l[j]?:=by
 have hk:(l.take k).length = k:=by rw [List.length_take]; omega
 by_cases h1:j < k
 ·rw [if_pos h1,List.append_assoc,List.getElem?_append_left (by omega),List.getElem?_take,if_pos h1]
 ·rw [if_neg h1]
  by_cases h2:j < k + ns.length
  ·rw [if_pos h2,List.getElem?_append_left (by rw [List.length_append]; omega),List.getElem?_append_right (by omega),hk]
  ·rw [if_neg h2,List.getElem?_append_right (by rw [List.length_append]; omega),List.length_append,hk,List.getElem?_drop]
   congr 1
   omega
theorem splice_sub {α:Type} {cs cells ns:List α} {off k:Nat} (h:∀ j v,cs[j]? = some v→cells[off + j]? = some v) (h1:k + ns.length≤cs.length) (h2:off + k + ns.length≤cells.length) :
  ∀ j v,(cs.take k++ns++cs.drop (k + ns.length))[j]? = some v→(cells.take (off + k)++ns++cells.drop (off + k + ns.length))[off + j]? = some v:=by
 intro j v e
 rw [splice_get _ _ _ _ h1] at e
 rw [splice_get _ _ _ _ h2]
 by_cases c1:j < k
 ·rw [if_pos c1] at e; rw [if_pos (by omega)]; exact h j v e
 ·rw [if_neg c1] at e
  rw [if_neg (by omega)]
  by_cases c2:j < k + ns.length
  ·rw [if_pos c2] at e; rw [if_pos (by omega),show off + j - (off + k) = j - k by omega]; exact e
  ·rw [if_neg c2] at e; rw [if_neg (by omega)]; exact h j v e
theorem splice_inner {α:Type} (a c b ns:List α) (o:Nat) (h:o + ns.length≤c.length) :
  a++((c.take o++ns++c.drop (o + ns.length))++b) = (a++(c++b)).take (a.length + o)++ns++(a++(c++b)).drop (a.length + o + ns.length):=by
 have t:=take_mid [] a c b [] o (by omega)
 have d:=drop_mid [] a c b [] (o + ns.length) h
 simp only [List.nil_append,List.append_nil,List.length_nil,Nat.zero_add] at t d
 rw [t,Nat.add_assoc,d]
 simp
theorem storeV_ok (hC:CfgOK C P) {g:Gh} {s:St} {tm:Array Value} {tms:List (Array Value)} {w:World} (hs:StR g s tm tms w) {t:Nat} {a v:AV} {c:Bool} {r:AV} {e:Eff}
  (h:storeV C s.bxs t a v = some (c,r,e)) {x y:Value} (ha:VR g a x) (hv:VR g v y) :
  r = .tup []∧∃ w',(Instr.storeAt t x y).run P w = .ok () w'∧StR g (e.apply s) tm tms w'∧Tr g w g w':=by
 unfold storeV at h
 split at h
 ·rename_i hok
  obtain ⟨hok,hsz,hnz⟩:=hok
  obtain ⟨i,hi,his,_⟩:=hC.size t hnz
  have hgs:=hv.gs hok
  have hns:y.cells.toList.length = i.size:=by rw [hgs.length,hsz,his]
  have hone:=hgs.one
  have hrun:∀ blk off cells,x = .pointer (some ⟨blk,off,none⟩)→BlkIs w blk cells→off + i.size≤cells.length →
    ∃ w',(Instr.storeAt t x y).run P w = .ok () w'∧StW w w' blk∧BlkIs w' blk (cells.take off++y.cells.toList++cells.drop (off + y.cells.toList.length)):=by
   intro blk off cells hx hb hl
   obtain ⟨w',h1,h2,h3⟩:=run_storeVar hi hb hns hl hone
   refine ⟨w',?_,h2,by rw [hns]; exact h3⟩
   subst hx
   simp only [Instr.storeAt,Instr.sureAddr,Sem.run_bind,Sem.run_pure,Result.andThen_ok]
   exact h1
  split at h
  ·rename_i b off p
   have ha':GR g (.ptr b off p) [x]:=ha
   obtain ⟨gb,blk,e1,e2,e3,e4,e5⟩:=ha'
   simp only [List.cons.injEq,and_true] at e5
   split at h
   ·rename_i gs hb
    split at h
    ·rename_i gs' hp
     simp only [Option.some.injEq,Prod.mk.injEq] at h
     obtain ⟨_,rfl,rfl⟩:=h
     obtain ⟨gb',k1,k2⟩:=hs.bxs.box _ _ hb
     rw [e1] at k1
     cases k1
     obtain ⟨q1,q2,blk',cells,k3,k4,k5,k6⟩:=k2
     rw [e3] at k3
     cases k3
     obtain ⟨h1,h2⟩:=putAt_ok hs.bxs.w hs.fz hgs hp k5 e4
     obtain ⟨w',r1,r2,r3⟩:=hrun blk (off + stepsOff p) cells e5 k4 (by rw [← hns]; omega)
     have hu:=hs.upd e1 e3 q2 k6 r2.os r2.tape r2.output (by rw [r2.size]; exact Nat.le_refl _) (fun b hb _=>r2.other b hb) (.var gs') ⟨q1,q2,blk,_,e3,r3,h2,k6⟩
     exact ⟨rfl,w',r1,hu.1,hu.2⟩
    ·cases h
   ·cases h
  ·rename_i b j o
   have ha':GR g (.rptr b j o) [x]:=ha
   obtain ⟨gb,blk,e1,e2,e3,e4,e5,e6⟩:=ha'
   simp only [List.cons.injEq,and_true] at e6
   split at h
   ·rename_i T l hb
    split at h
    ·rename_i z hz
     simp only [Option.some.injEq,Prod.mk.injEq] at h
     obtain ⟨_,rfl,rfl⟩:=h
     obtain ⟨gb',k1,k2⟩:=hs.bxs.box _ _ hb
     rw [e1] at k1
     cases k1
     obtain ⟨q1,q2,q3,q4,q5⟩:=k2
     cases ho:gb.own with
     | false =>
      simp only [e3,ho] at q5
      rcases q5.1 with h0 | h0
      ·exact absurd h0 (by decide)
      ·subst h0; simp only [List.length_nil] at q3; omega
     | true =>
      simp only [e3,ho] at q5
      obtain ⟨cells,cs,k3,k4,k5,k6,k7,k8⟩:=q5
      have hT:∀ (x:T.den) (cs:List Value),CR g.fz T x cs→cs.length = T.size:=fun x cs h=>h.length
      have hj:j.toNat < l.length:=by omega
      obtain ⟨a1,c1,b1,rfl,ha1,hc1,_⟩:=k5.get hT j.toNat hj
      rw [← at_lt e4 (by omega)] at hc1
      obtain ⟨p1,p2⟩:=put_ok hs.bxs.w hs.fz hz hc1 hgs
      obtain ⟨a',b',c0,ea,ha',hc0,hset⟩:=k5.set hT j.toNat hj p2
      obtain ⟨rfl,ea2⟩:=List.append_inj ea (by rw [ha1,ha'])
      obtain ⟨rfl,rfl⟩:=List.append_inj ea2 (by rw [hc1.length,hT _ _ hc0])
      have hcl:(a1++(c1++b1)).length = l.length * T.size:=k5.length hT
      have hle:gb.off + (a1++(c1++b1)).length≤cells.length:=by
       rw [hcl]
       have:=Nat.mul_le_mul_right T.size q4
       rw [q3] at this
       omega
      have hin:a1.length + o + y.cells.toList.length≤(a1++(c1++b1)).length:=by simp only [List.length_append]; omega
      obtain ⟨w',r1,r2,r3⟩:=hrun blk (gb.off + (a1.length + o)) cells (by rw [e6,ha1,q2,Nat.add_assoc]) k3 (by rw [← hns]; omega)
      rw [splice_inner a1 c1 b1 y.cells.toList o p1] at hset
      have hsub:=splice_sub (ns:=y.cells.toList) k6 hin (by omega)
      have hu:=hs.upd e1 e3 ho (k7 trivial) r2.os r2.tape r2.output (by rw [r2.size]; exact Nat.le_refl _) (fun b hb _=>r2.other b hb) (.row T false (l.set j.toNat z)) (by
       refine ⟨q1,q2,by rw [q3]; simp,q4,?_⟩
       simp only [e3,ho]
       refine ⟨_,_,r3,?_,hset,hsub,fun _=>k7 trivial,fun h=>nomatch h⟩
       simp only [List.length_append,List.length_take,List.length_drop]
       omega)
      exact ⟨rfl,w',r1,hu.1,hu.2⟩
    ·cases h
   ·cases h
  ·cases h
 ·cases h
end
end Go.V
namespace Go.V
variable [Codes]
section
variable {C:Cfg} {P:Program}
theorem run_fieldAt {w:World} {s t f o:Nat} {fs:List (Nat × Nat)} (hC:CfgOK C P) (hu:C.under s = .st fs) (hf:fs[f]? = some (o,t)) (hz:C.size t ≠ 0) (blk off:Nat) :
  (Instr.fieldAt s (.pointer (some ⟨blk,off,none⟩)) f).run P w = .ok (.pointer (some ⟨blk,off + o,none⟩)) w:=by
 obtain ⟨fields,hd,hfs⟩:=hC.st _ _ hu
 obtain ⟨i,hi,his,_⟩:=hC.size t hz
 subst hfs
 rw [List.getElem?_map,Option.map_eq_some_iff] at hf
 obtain ⟨fl,hfl,he⟩:=hf
 have hfl':fields[f]? = some fl:=by simpa using hfl
 have h1:fl.offset = o:=congrArg Prod.fst he
 have h2:fl.type = t:=congrArg Prod.snd he
 have hsz:¬ (C.size t = 0):=hz
 simp [Instr.fieldAt,run_underlying hd,hfl',Instr.sureAddr,fieldPlace,h2,run_sizeOf hi,his,hsz,add_lit',h1]
theorem addP_ok:∀ {p:List Stp},p ≠ []→∀ (o:Nat),stepsOff (addP p o) = stepsOff p + o∧((∀ s∈p,0≤s.i∧s.i < s.n)→∀ s∈addP p o,0≤s.i∧s.i < s.n)
 | [],h,_=>(h rfl).elim
 | [s],_,o=>⟨by simp [addP,stepsOff]; omega,fun h u hu=>by simp only [addP,List.mem_singleton] at hu; subst hu; exact h s (by simp)⟩
 | s :: u :: p,_,o=>by
  obtain ⟨h1,h2⟩:=addP_ok (p:=u :: p) (by simp) o
  refine ⟨by simp only [addP,stepsOff_cons] at h1 ⊢; omega,fun h v hv=>?_⟩
  simp only [addP,List.mem_cons] at hv
  rcases hv with rfl | hv
  ·exact h v (by simp)
  ·exact h2 (fun s hs=>h s (List.mem_cons_of_mem _ hs)) v (by simpa [addP] using hv)
theorem fieldAddrV_ok (hC:CfgOK C P) {g:Gh} {w:World} {t f:Nat} {a:AV} {c:Bool} {v:AV} {e:Eff} (h:fieldAddrV C t a f = some (c,v,e)) {x:Value} (ha:VR g a x) :
  e = .none∧∃ y,(Instr.fieldAt t x f).run P w = .ok y w∧VR g v y:=by
 unfold fieldAddrV at h
 split at h
 ·rename_i o ft hf
  unfold fieldOff at hf
  split at hf
  ·rename_i fs hu
   split at h
   ·cases h
   ·rename_i hz
    split at h
    ·rename_i gs
     split at h
     ·rename_i gs' hd
      simp only [ok,Option.some.injEq,Prod.mk.injEq] at h
      obtain ⟨_,rfl,rfl⟩:=h
      have ha':GR g (.eptr gs) [x]:=ha
      obtain ⟨blk,off,cs',e1,h1,h2⟩:=ha'
      simp only [List.cons.injEq,and_true] at e1
      subst e1
      refine ⟨rfl,_,run_fieldAt hC hu hf hz blk off,?_⟩
      exact ⟨blk,off + o,cs'.drop o,rfl,psR_drop hd h1,fun j v e=>by
       have:=h2 (o + j) v (by simpa using e)
       rwa [← Nat.add_assoc] at this⟩
     ·cases h
    ·rename_i b off
     simp only [ok,Option.some.injEq,Prod.mk.injEq] at h
     obtain ⟨_,rfl,rfl⟩:=h
     have ha':GR g (.ptr b off []) [x]:=ha
     obtain ⟨gb,blk,e1,e2,e3,e4,e5⟩:=ha'
     simp only [List.cons.injEq,and_true,stepsOff,Nat.add_zero] at e5
     subst e5
     exact ⟨rfl,_,run_fieldAt hC hu hf hz blk _,gb,blk,e1,e2,e3,by simp,by simp [stepsOff]⟩
    ·rename_i b off p hp
     simp only [ok,Option.some.injEq,Prod.mk.injEq] at h
     obtain ⟨_,rfl,rfl⟩:=h
     have ha':GR g (.ptr b off p) [x]:=ha
     obtain ⟨gb,blk,e1,e2,e3,e4,e5⟩:=ha'
     simp only [List.cons.injEq,and_true] at e5
     subst e5
     have hne:p ≠ []:=hp
     obtain ⟨k1,k2⟩:=addP_ok hne o
     exact ⟨rfl,_,run_fieldAt hC hu hf hz blk _,gb,blk,e1,e2,e3,k2 e4,by rw [k1,← Nat.add_assoc]⟩
    ·rename_i b i j
     simp only [ok,Option.some.injEq,Prod.mk.injEq] at h
     obtain ⟨_,rfl,rfl⟩:=h
     have ha':GR g (.rptr b i j) [x]:=ha
     obtain ⟨gb,blk,e1,e2,e3,e4,e5,e6⟩:=ha'
     simp only [List.cons.injEq,and_true] at e6
     subst e6
     exact ⟨rfl,_,run_fieldAt hC hu hf hz blk _,gb,blk,e1,e2,e3,e4,e5,by rw [Nat.add_assoc (gb.off + _)]⟩
    ·cases h
  ·cases hf
 ·cases h
 where
 psR_drop {fz:Nat→Nat→Option Value}:∀ {gs:List AV} {n:Nat} {gs':List AV} {cs:List Value},dropGs gs n = some gs'→PsR fz gs cs→PsR fz gs' (cs.drop n)
  | gs,0,gs',cs,h,k=>by
   simp only [dropGs,Option.some.injEq] at h
   subst h
   simpa using k
  | [],n + 1,gs',cs,h,k=>by simp [dropGs] at h
  | .val T x :: gs,n + 1,gs',cs,h,⟨c1,c2,e,h1,h2⟩=>by
   simp only [dropGs] at h
   by_cases hle:(AV.val T x).size≤n + 1
   ·simp only [Nat.ble_eq_true_of_le hle,cond_true] at h
    have h4:=psR_drop h h2
    have hl:=h1.length
    subst e
    have hl':c1.length = (AV.val T x).size:=hl
    rw [List.drop_append,List.drop_of_length_le (by omega),List.nil_append,hl']
    exact h4
   ·have hb:=ble_false hle
    simp [hb] at h
theorem idx_ok {g:Gh} {v:AV} {i:Int} (h:idx v = some i) {x:Value} (hx:VR g v x):∃ k,x = .int k i:=by
 unfold idx at h
 split at h
 ·rename_i k n
  simp only [Option.some.injEq] at h
  subst h
  have hx':GR g (.val (.int k) n) [x]:=hx
  have:[x] = [Value.int k n]:=hx'
  exact ⟨k,by simpa using this⟩
 ·cases h
theorem inR_ok {i:Int} {n:Nat} (h:inR i n = true):0≤i∧i < n:=by
 simp only [inR,Bool.and_eq_true,decide_eq_true_eq] at h
 exact h
theorem run_indexAt_arr {w:World} {t n e:Nat} (hd:P.underlying t = some (.array n e)) {i:Int} (h0:0≤i) (h1:i < n) {inf:TypeInfo} (hi:P.info? e = some inf) (k:IntKind) (blk off:Nat) :
  (Instr.indexAt t (.pointer (some ⟨blk,off,none⟩)) (.int k i)).run P w = .ok (.pointer (some ⟨blk,off + i.toNat * inf.size,none⟩)) w:=by
 simp [Instr.indexAt,asIntOf,run_underlying hd,Instr.sureAddr,h0,h1,run_sizeOf hi,add_lit']
theorem run_indexAt_sl {w:World} {t e:Nat} (hd:P.underlying t = some (.slice e)) {i:Int} {len cap:Nat} (h0:0≤i) (h1:i < len) {inf:TypeInfo} (hi:P.info? e = some inf) (k:IntKind) (a:Addr) :
  (Instr.indexAt t (.slice (some a) len cap) (.int k i)).run P w = .ok (.pointer (some (a.add (i.toNat * inf.size)))) w:=by
 simp [Instr.indexAt,asIntOf,run_underlying hd,h0,h1,run_sizeOf hi]
theorem viewT_ok {g:Gh} {s:St} {tm:Array Value} {tms:List (Array Value)} {w:World} (hs:StR g s tm tms w) {e:Nat} {v:AV} {T:Ty} {l:List T.den} (h:viewT C s.bxs e v = some ⟨T,l⟩) {x:Value} (hx:VR g v x) :
  ∃ a cap,x = .slice a l.length cap∧l.length≤cap∧((l = []∧cap = 0) ∨ ∃ blk off cs,a = some ⟨blk,off,none⟩∧Elems (CR g.fz T) l cs∧CellsAt w blk off cs∧((∀ b wn,v ≠ .row b wn)→Fz g.fz blk off cs)):=by
 unfold viewT at h
 split at h
 ·rename_i T' l'
  simp only [Option.some.injEq,Sigma.mk.injEq] at h
  obtain ⟨rfl,h⟩:=h
  obtain rfl:=eq_of_heq h
  have hx':GR g (.val (.sl T') l') [x]:=hx
  obtain ⟨v,e1,h1⟩:=hx'
  simp only [List.cons.injEq,and_true] at e1
  subst e1
  rcases h1 with ⟨rfl,a,rfl⟩ | ⟨blk,off,cap,cs,rfl,h2,h3,h4⟩
  ·exact ⟨a,0,rfl,Nat.le_refl _,.inl ⟨rfl,rfl⟩⟩
  ·exact ⟨_,cap,rfl,h2,.inr ⟨blk,off,cs,rfl,h3,h4.cells hs.fz,fun _=>h4⟩⟩
 ·rename_i T' l'
  simp only [Option.some.injEq,Sigma.mk.injEq] at h
  obtain ⟨rfl,h⟩:=h
  obtain rfl:=eq_of_heq h
  have hx':GR g (.full T' l') [x]:=hx
  rcases hx' with ⟨rfl,a,e1⟩ | ⟨blk,off,cs',e1,h1,h2⟩
  ·simp only [List.cons.injEq,and_true] at e1
   exact ⟨a,0,e1,Nat.le_refl _,.inl ⟨rfl,rfl⟩⟩
  ·simp only [List.cons.injEq,and_true] at e1
   exact ⟨_,_,e1,Nat.le_refl _,.inr ⟨blk,off,cs',rfl,h1,h2.cells hs.fz,fun _=>h2⟩⟩
 ·rename_i T' l'
  simp only [Option.some.injEq,Sigma.mk.injEq] at h
  obtain ⟨rfl,h⟩:=h
  obtain rfl:=eq_of_heq h
  have hx':GR g (.nn T' l') [x]:=hx
  rcases hx' with ⟨rfl,a,e1⟩ | ⟨blk,off,cap,cs',e1,h0,h1,h2⟩
  ·simp only [List.cons.injEq,and_true] at e1
   exact ⟨_,0,e1,Nat.le_refl _,.inl ⟨rfl,rfl⟩⟩
  simp only [List.cons.injEq,and_true] at e1
  exact ⟨_,_,e1,h0,.inr ⟨blk,off,cs',rfl,h1,h2.cells hs.fz,fun _=>h2⟩⟩
 ·split at h
  ·rename_i T' ht
   simp only [Option.some.injEq,Sigma.mk.injEq] at h
   obtain ⟨rfl,h⟩:=h
   obtain rfl:=eq_of_heq h
   have hx':[x] = [Value.slice none 0 0]:=hx
   simp only [List.cons.injEq,and_true] at hx'
   exact ⟨none,0,hx',Nat.le_refl _,.inl ⟨rfl,rfl⟩⟩
  ·cases h
 ·rename_i b wn
  split at h
  ·rename_i T' fz l' hb
   simp only [Option.some.injEq,Sigma.mk.injEq] at h
   obtain ⟨rfl,h⟩:=h
   obtain rfl:=eq_of_heq h
   have hx':GR g (.row b wn) [x]:=hx
   obtain ⟨gb,v,e1,e2,e3,hw⟩:=hx'
   simp only [List.cons.injEq,and_true] at e3
   subst e3
   obtain ⟨gb',k1,k2⟩:=hs.bxs.box _ _ hb
   rw [e1] at k1
   cases k1
   have hsz:gb.sz = T'.size:=k2.2.1
   have hlen:gb.len = l'.length:=k2.2.2.1
   have hcap:gb.len≤gb.cap:=k2.2.2.2.1
   cases hblk:gb.blk with
   | none =>
    have hr:=k2.2.2.2.2
    simp only [hblk] at hr
    obtain ⟨rfl,_⟩:=hr
    cases wn with
    | whole=>simp only [WinR,hblk] at hw; obtain ⟨rfl,_⟩:=hw; exact ⟨_,0,rfl,Nat.le_refl _,.inl ⟨rfl,rfl⟩⟩
    | part off n full=>simp only [WinR,hblk] at hw; obtain ⟨_,_,_,rfl⟩:=hw; exact ⟨gb.ad,0,by simp [Win.app],by simp [Win.app],.inl ⟨by simp [Win.app],rfl⟩⟩
   | some blk =>
    obtain ⟨cs,k3,k4⟩:=row_get hs.fz k2 hblk
    cases wn with
    | whole =>
     simp only [WinR,hblk] at hw
     exact ⟨_,gb.cap,by rw [hw,hlen]; rfl,by show l'.length≤_; omega,.inr ⟨blk,gb.off,cs,rfl,k3,k4,fun h=>(h _ _ rfl).elim⟩⟩
    | part off n full =>
     simp only [WinR,hblk] at hw
     obtain ⟨w1,a,c,rfl,wsp,w2,w3,w4,w5⟩:=hw
     have hlw:(Win.app (.part off n full) l').length = n:=by simp only [Win.app,List.length_take,List.length_drop]; omega
     refine ⟨some a,c,by rw [hlw],by rw [hlw]; exact w2,.inr ?_⟩
     by_cases hn:n = 0
     ·have he:Win.app (.part off n full) l' = []:=List.eq_nil_of_length_eq_zero (by rw [hlw,hn])
      rw [he]
      obtain ⟨ab,ao,as⟩:=a
      simp only at wsp
      subst wsp
      exact ⟨ab,ao,[],rfl,rfl,fun j v e=>by simp at e,fun h=>(h _ _ rfl).elim⟩
     ·have ha:a = ⟨blk,gb.off + off * gb.sz,none⟩:=by
       rcases w5 with h0 | h0
       ·omega
       ·exact h0
      have hT:∀ (x:T'.den) (cs:List Value),CR g.fz T' x cs→cs.length = T'.size:=fun x cs h=>h.length
      have hs1:=k3.split hT off (by omega)
      have hs2:=hs1.2.split hT n (by rw [List.length_drop]; omega)
      exact ⟨blk,gb.off + off * gb.sz,_,by rw [ha],hs2.1,by rw [hsz]; exact (k4.drop (off * T'.size)).take (n * T'.size),fun h=>(h _ _ rfl).elim⟩
  ·cases h
 ·cases h
theorem indexAddrV_ok (hC:CfgOK C P) {g:Gh} {s:St} {tm:Array Value} {tms:List (Array Value)} {w:World} (hs:StR g s tm tms w) {t:Nat} {a iv:AV} {v:AV} {e:Eff} (h:indexAddrV C s.bxs t a iv = some (true,v,e)) {x y:Value}
  (ha:VR g a x) (hy:VR g iv y):e = .none∧∃ z,(∀ w1,(Instr.indexAt t x y).run P w1 = .ok z w1)∧VR g v z:=by
 unfold indexAddrV at h
 split at h
 ·cases h
 ·rename_i i hi
  obtain ⟨k,rfl⟩:=idx_ok hi hy
  split at h
  ·rename_i n e' hu
   have hd:=hC.arr _ _ _ hu
   split at h
   ·cases h
   ·rename_i hz
    obtain ⟨inf,hinf,his,_⟩:=hC.size _ hz
    split at h
    ·rename_i m T l gs
     split at h
     ·rename_i hnm
      simp only [okIf,Option.some.injEq,Prod.mk.injEq] at h
      obtain ⟨hc,rfl,rfl⟩:=h
      obtain ⟨h0,h1⟩:=inR_ok hc
      have ha':GR g (.eptr (.val (.arr m T) l :: gs)) [x]:=ha
      obtain ⟨blk,off,cs',e1,h2,h3⟩:=ha'
      simp only [List.cons.injEq,and_true] at e1
      subst e1
      obtain ⟨c1,c2,rfl,k1,k2⟩:=h2
      obtain ⟨a1,c,b1,rfl,ha1,hcc⟩:=arr_get k1 h0 (by omega)
      refine ⟨rfl,_,fun w1=>run_indexAt_arr hd h0 h1 hinf k blk off,blk,_,c,rfl,psR_gs hcc,?_⟩
      intro j v hj
      have hlt:=(List.getElem?_eq_some_iff.1 hj).1
      have:=h3 (a1.length + j) v (by
       rw [List.append_assoc,List.append_assoc,List.getElem?_append_right (by omega),Nat.add_sub_cancel_left,List.getElem?_append_left hlt]
       exact hj)
      rw [ha1,hnm.2,← his,← Nat.add_assoc] at this
      exact this
     ·cases h
    ·rename_i b off p
     simp only [okIf,Option.some.injEq,Prod.mk.injEq] at h
     obtain ⟨hc,rfl,rfl⟩:=h
     obtain ⟨h0,h1⟩:=inR_ok hc
     have ha':GR g (.ptr b off p) [x]:=ha
     obtain ⟨gb,blk,e1,e2,e3,e4,e5⟩:=ha'
     simp only [List.cons.injEq,and_true] at e5
     subst e5
     refine ⟨rfl,_,fun w1=>run_indexAt_arr hd h0 h1 hinf k blk _,gb,blk,e1,e2,e3,?_,?_⟩
     ·intro u hu
      rw [List.mem_append,List.mem_singleton] at hu
      rcases hu with hu | rfl
      ·exact e4 u hu
      ·exact ⟨h0,h1⟩
     ·rw [steps_snoc,his]
      simp only [Nat.add_zero,Nat.add_assoc]
    ·cases h
  ·rename_i e' hu
   have hd:=hC.sl _ _ hu
   split at h
   ·cases h
   ·rename_i hz
    obtain ⟨inf,hinf,his,_⟩:=hC.size _ hz
    split at h
    ·rename_i b
     split at h
     ·rename_i T fz l hb
      split at h
      ·rename_i hT
       simp only [okIf,Option.some.injEq,Prod.mk.injEq] at h
       obtain ⟨hc,rfl,rfl⟩:=h
       obtain ⟨h0,h1⟩:=inR_ok hc
       have ha':GR g (.row b .whole) [x]:=ha
       obtain ⟨gb,v,e1,e2,e3,hw⟩:=ha'
       simp only [List.cons.injEq,and_true] at e3
       subst e3
       obtain ⟨gb',k1,k2⟩:=hs.bxs.box _ _ hb
       rw [e1] at k1
       cases k1
       have hlen:gb.len = l.length:=k2.2.2.1
       cases hblk:gb.blk with
       | none=>simp only [WinR,hblk] at hw; omega
       | some blk =>
        simp only [WinR,hblk] at hw
        subst hw
        refine ⟨rfl,_,fun w1=>run_indexAt_sl hd h0 (by omega) hinf k _,gb,blk,e1,e2,hblk,h0,by omega,?_⟩
        rw [add_lit',his,← hT,← k2.2.1,Nat.add_zero]
      ·cases h
     ·cases h
    ·rename_i b off n full
     split at h
     ·rename_i T fz l hb
      split at h
      ·rename_i hT
       simp only [okIf,Option.some.injEq,Prod.mk.injEq] at h
       obtain ⟨hc,rfl,rfl⟩:=h
       obtain ⟨h0,h1⟩:=inR_ok hc
       have ha':GR g (.row b (.part off n full)) [x]:=ha
       obtain ⟨gb,v,e1,e2,e3,hw⟩:=ha'
       simp only [List.cons.injEq,and_true] at e3
       subst e3
       obtain ⟨gb',k1,k2⟩:=hs.bxs.box _ _ hb
       rw [e1] at k1
       cases k1
       cases hblk:gb.blk with
       | none=>simp only [WinR,hblk] at hw; omega
       | some blk =>
        simp only [WinR,hblk] at hw
        obtain ⟨w1,a,c,rfl,wsp,w2,w3,w4,w5⟩:=hw
        have ha:a = ⟨blk,gb.off + off * gb.sz,none⟩:=by
         rcases w5 with h2 | h2
         ·omega
         ·exact h2
        subst ha
        refine ⟨rfl,_,fun w1=>run_indexAt_sl hd h0 h1 hinf k _,gb,blk,e1,e2,hblk,by omega,by omega,?_⟩
        rw [add_lit',his,← hT,← k2.2.1,Nat.add_zero,show ((off:Int) + i).toNat = off + i.toNat by omega,Nat.add_mul,Nat.add_assoc]
      ·cases h
     ·cases h
    ·rename_i b off m lo n
     split at h
     ·rename_i h1s
      simp only [okIf,Option.some.injEq,Prod.mk.injEq] at h
      obtain ⟨hc,rfl,rfl⟩:=h
      obtain ⟨h0,h1⟩:=inR_ok hc
      have ha':GR g (.vsl b off m lo n) [x]:=ha
      obtain ⟨gb,blk,cap,e1,e2,e3,e4,e5,a,e6,e7,e8⟩:=ha'
      simp only [List.cons.injEq,and_true] at e6
      subst e6
      have ha:a = ⟨blk,off + lo,none⟩:=by
       rcases e8 with h2 | h2
       ·omega
       ·exact h2
      subst ha
      refine ⟨rfl,_,fun w1=>run_indexAt_sl hd h0 h1 hinf k _,gb,blk,e1,e2,e3,?_,?_⟩
      ·intro u hu
       simp only [List.mem_singleton] at hu
       subst hu
       exact ⟨by simp only; omega,by simp only; omega⟩
      ·rw [add_lit',his,h1s]
       simp only [stepsOff,Nat.mul_one,Nat.add_zero]
       rw [show ((lo:Int) + i).toNat = lo + i.toNat by omega,Nat.add_assoc]
     ·cases h
    ·rename_i hx1 hx2 hx3
     split at h
     ·rename_i T l hv
      split at h
      ·rename_i hT
       simp only [okIf,Option.some.injEq,Prod.mk.injEq] at h
       obtain ⟨hc,rfl,rfl⟩:=h
       obtain ⟨h0,h1⟩:=inR_ok hc
       obtain ⟨a,cap,rfl,h2,h3⟩:=viewT_ok hs hv ha
       rcases h3 with ⟨rfl,_⟩ | ⟨blk,off,cs,rfl,h4,_,h5⟩
       ·simp at h1; omega
       ·have hfz:=h5 (fun b wn e=>by
         cases wn with
         | whole=>exact hx1 b e
         | part o n f=>exact hx2 b o n f e)
        obtain ⟨a1,c,b1,rfl,ha1,hcc,_⟩:=h4.get (n:=T.size) (fun x cs h=>h.length) i.toNat (by omega)
        rw [← at_lt h0 h1] at hcc
        refine ⟨rfl,_,fun w1=>run_indexAt_sl hd h0 h1 hinf k _,blk,_,c,by rw [add_lit'],psR_gs hcc,?_⟩
        intro j v hj
        have hlt:=(List.getElem?_eq_some_iff.1 hj).1
        have:=hfz (a1.length + j) v (by
         rw [List.getElem?_append_right (by omega),Nat.add_sub_cancel_left,List.getElem?_append_left hlt]
         exact hj)
        rw [ha1,hT,← his,← Nat.add_assoc] at this
        exact this
      ·cases h
     ·cases h
  ·cases h
 where
 steps_snoc:∀ (p:List Stp) (s:Stp),stepsOff (p++[s]) = stepsOff p + (s.i.toNat * s.sz + s.o)
  | [],s=>by simp [stepsOff]
  | u :: p,s=>by rw [List.cons_append,stepsOff_cons,steps_snoc p s,stepsOff_cons]; omega
end
end Go.V
namespace Go.V
variable [Codes]
section
variable {C:Cfg} {P:Program}
theorem part_ok (hC:CfgOK C P) {g:Gh} {w:World} {t:Nat} {gs:List AV} {c:Bool} {v:AV} {e:Eff} (h:loadAt C t gs = some (c,v,e)) {arr:Array Value} {off:Nat} {cs:List Value} (hcs:∃ r,arr.toList.drop off = cs++r)
  (hg:GsR g gs cs):e = .none∧∃ x,(part t arr off).run P w = .ok x w∧VR1 g v x:=by
 obtain ⟨r,hr⟩:=hcs
 have hcut:∀ n,n≤cs.length→(arr.extract off (off + n)).toList = cs.take n:=by
  intro n hn
  rw [Array.toList_extract,List.extract_eq_take_drop,show off + n - off = n by omega,hr,List.take_append_of_le_length hn]
 unfold loadAt at h
 split at h
 ·rename_i fs hu
  split at h
  ·cases h
  ·rename_i hz
   split at h
   ·rename_i gs' ht
    simp only [ok,Option.some.injEq,Prod.mk.injEq] at h
    obtain ⟨_,rfl,rfl⟩:=h
    obtain ⟨h1,h2⟩:=takeGs_rel ht hg
    obtain ⟨fields,hd,_⟩:=hC.st _ _ hu
    obtain ⟨i,hi,hs,_⟩:=hC.size t hz
    refine ⟨rfl,.agg (arr.extract off (off + C.size t)),?_,_,rfl,by rw [hcut _ h1]; exact h2⟩
    simp [part,run_isAgg hd,aggB,run_sizeOf hi,hs]
   ·cases h
 ·rename_i n e' hu
  split at h
  ·rename_i m T l gs'
   split at h
   ·rename_i hnm
    simp only [ok,Option.some.injEq,Prod.mk.injEq] at h
    obtain ⟨_,rfl,rfl⟩:=h
    obtain ⟨c1,c2,rfl,h1,h2⟩:=hg
    have hl:=CR.length h1
    obtain ⟨i,hi,hs,_⟩:=hC.size t hnm.2.2
    have hle:C.size t = c1.length:=by rw [hl,hnm.2.1]; rfl
    refine ⟨rfl,.agg (arr.extract off (off + C.size t)),?_,_,rfl,?_⟩
    ·simp [part,run_isAgg (hC.arr _ _ _ hu),aggB,run_sizeOf hi,hs]
    ·rw [hcut _ (by rw [List.length_append]; omega),hle,List.take_left]
     exact h1
   ·cases h
  ·cases h
 ·cases h
 ·cases h
 ·rename_i h1 h2 h3 h4
  split at h
  ·rename_i v' gs'
   split at h
   ·rename_i hs
    simp only [ok,Option.some.injEq,Prod.mk.injEq] at h
    obtain ⟨_,rfl,rfl⟩:=h
    obtain ⟨c1,c2,rfl,k1,k2⟩:=hg
    obtain ⟨x,rfl⟩:=k1.single_one hs
    have hc:arr[off]? = some x:=by
     have:(arr.toList.drop off)[0]? = some x:=by rw [hr]; rfl
     simpa using this
    have one:∀ d,P.underlying t = some d→aggB d = false→(part t arr off).run P w = .ok x w:=by
     intro d hd ha
     unfold part
     rw [Sem.run_bind,run_isAgg hd,ha]
     simp [hc]
    refine ⟨rfl,x,?_,(vr1_single hs).2 k1⟩
    cases hu:C.under t with
    | int k=>exact one _ (hC.int _ _ hu) rfl
    | bool=>exact one _ (hC.bool _ hu) rfl
    | str=>exact one _ (hC.str _ hu) rfl
    | ptr e=>exact one _ (hC.ptr _ _ hu) rfl
    | sl e=>exact one _ (hC.sl _ _ hu) rfl
    | arr n e=>exact (h2 _ _ hu).elim
    | st fs=>exact (h1 _ hu).elim
    | fn=>obtain ⟨_,_,_,hd⟩:=hC.fn _ hu; exact one _ hd rfl
    | iface=>obtain ⟨_,hd⟩:=hC.iface _ hu; exact one _ hd rfl
    | map k e=>exact one _ (hC.map _ _ _ hu) rfl
    | tup=>exact (h4 hu).elim
    | oth=>exact (h3 hu).elim
   ·cases h
  ·cases h
theorem VR1.vr' {g:Gh} {v:AV} {c:Value} (h:VR1 g v c):VR g v c:=by
 cases v <;> first | exact h | exact h.elim
theorem fieldV_ok (hC:CfgOK C P) {g:Gh} {w:World} {t f:Nat} {a:AV} {c:Bool} {v:AV} {e:Eff} (h:fieldV C t a f = some (c,v,e)) {x:Value} (ha:VR g a x) :
  e = .none∧∃ y,(Instr.field t x f).run P w = .ok y w∧VR g v y:=by
 unfold fieldV at h
 split at h
 ·rename_i o ft gs hf
  split at h
  ·rename_i gs' hd
   unfold fieldOff at hf
   split at hf
   ·rename_i fs hu
    obtain ⟨fields,hdd,hfs⟩:=hC.st _ _ hu
    subst hfs
    rw [List.getElem?_map,Option.map_eq_some_iff] at hf
    obtain ⟨fl,hfl,he⟩:=hf
    have hfl':fields[f]? = some fl:=by simpa using hfl
    have h1:fl.offset = o:=congrArg Prod.fst he
    have h2:fl.type = ft:=congrArg Prod.snd he
    obtain ⟨arr,rfl,h3⟩:=ha
    obtain ⟨h4,h5⟩:=dropGs_rel hd h3
    obtain ⟨e1,y,h6,h7⟩:=part_ok (P:=P) (w:=w) hC h (arr:=arr) (off:=o) ⟨[],by simp⟩ h5
    refine ⟨e1,y,?_,h7.vr'⟩
    simp [Instr.field,run_underlying hdd,hfl',asAgg,h1,h2,h6]
   ·cases hf
  ·cases h
 ·cases h
theorem indexV_ok (hC:CfgOK C P) {g:Gh} {w:World} {t:Nat} {a iv:AV} {v:AV} {e:Eff} (h:indexV C t a iv = some (true,v,e)) {x y:Value} (ha:VR g a x) (hy:VR g iv y) :
  e = .none∧∃ z,(Instr.index t x y).run P w = .ok z w∧VR g v z:=by
 unfold indexV at h
 split at h
 ·cases h
 ·rename_i i hi
  obtain ⟨k,rfl⟩:=idx_ok hi hy
  split at h
  ·rename_i s hu
   simp only [okIf,Option.some.injEq,Prod.mk.injEq] at h
   obtain ⟨hc,rfl,rfl⟩:=h
   obtain ⟨h0,h1⟩:=inR_ok hc
   have ha':[x] = [Value.string s]:=ha
   simp only [List.cons.injEq,and_true] at ha'
   subst ha'
   refine ⟨rfl,.int .u8 (byteAt s i),?_,rfl⟩
   have hlt:i.toNat < s.size:=by omega
   have hb:byteAt s i = ((s[i.toNat]'hlt).toNat:Int):=by
    unfold byteAt
    rw [List.getD_eq_getElem?_getD,Array.getElem?_toList,Array.getElem?_eq_getElem hlt]
    rfl
   simp [Instr.index,asIntOf,run_underlying (hC.str _ hu),h0,hlt,hb]
  ·rename_i n e' m T l hu
   split at h
   ·rename_i hnm
    split at h
    ·rename_i c0 v0 e0 hl
     simp only [okIf,Option.some.injEq,Prod.mk.injEq] at h
     obtain ⟨hc,rfl,rfl⟩:=h
     obtain ⟨h0,h1⟩:=inR_ok hc
     obtain ⟨arr,rfl,h2⟩:=ha
     obtain ⟨inf,hinf,his,_⟩:=hC.size _ hnm.2.2
     obtain ⟨a1,c,b1,hea,ha1,hcc⟩:=arr_get h2 h0 (by omega)
     obtain ⟨_,z,h3,h4⟩:=part_ok (P:=P) (w:=w) hC hl (arr:=arr) (off:=i.toNat * inf.size) (cs:=c) ⟨b1,by rw [hea,his,← hnm.2.1,← ha1,List.drop_left]⟩ (gsR_gs hcc)
     refine ⟨rfl,z,?_,h4.vr'⟩
     simp [Instr.index,asIntOf,run_underlying (hC.arr _ _ _ hu),h0,h1,run_sizeOf hinf,h3]
    ·cases h
   ·cases h
  ·cases h
theorem run_eqGuard {op:BinOp} {t:TypeId} {x y:Operand} {a b:Value} {w:World} (h:a ≠ .nilIface) (h2:∀ cs,a ≠ .agg cs) :
  (eqGuard op t x y a b).run P w = .ok () w:=by
 unfold eqGuard
 cases op <;> simp only [Bool.not_true,Bool.not_false,if_true,if_false,Bool.false_eq_true] <;> first | rfl | skip
 all_goals
  cases a <;> cases b <;> first | rfl | (exact absurd rfl h) | (exact absurd rfl (h2 _))
end
end Go.V
namespace Go.V
variable [Codes]
section
variable {C:Cfg} {P:Program}
theorem toList_inj {a b:ByteArray}:(a.toList == b.toList) = decide (a = b):=by
 rw [Bool.eq_iff_iff,beq_iff_eq,decide_eq_true_iff]
 constructor
 ·intro h
  rw [ByteArray.toList_eq,ByteArray.toList_eq] at h
  obtain ⟨⟨a⟩⟩:=a
  obtain ⟨⟨b⟩⟩:=b
  simp only at h
  rw [h]
 ·intro h; rw [h]
theorem intOp_ok {g:Gh} {w:World} {op:BinOp} {k j:IntKind} {a b:Int} {t:TypeId} {v:AV} {e:Eff} (hj:(op = .shl ∨ op = .shr) ∨ k = j) (h:intOp op k a b = some (true,v,e)) :
  e = .none∧∃ z,(binOp op t (.int k a) (.int j b)).run P w = .ok z w∧VR g v z:=by
 cases op
 case shl =>
  simp only [intOp,okIf,Option.some.injEq,Prod.mk.injEq,decide_eq_true_eq] at h
  obtain ⟨h0,rfl,rfl⟩:=h
  exact ⟨rfl,_,by simp [binOp,Op.shift,show ¬ b < 0 by omega]; rfl,rfl⟩
 case shr =>
  simp only [intOp,okIf,Option.some.injEq,Prod.mk.injEq,decide_eq_true_eq] at h
  obtain ⟨h0,rfl,rfl⟩:=h
  exact ⟨rfl,_,by simp [binOp,Op.shift,show ¬ b < 0 by omega]; rfl,rfl⟩
 all_goals
  rcases hj with (hj | hj) | hj <;> first | (cases hj; done) | skip
  subst hj
 case quo =>
  simp only [intOp,okIf,Option.some.injEq,Prod.mk.injEq,decide_eq_true_eq] at h
  obtain ⟨h0,rfl,rfl⟩:=h
  exact ⟨rfl,_,by simp [binOp,Op.intDiv,h0],rfl⟩
 case rem =>
  simp only [intOp,okIf,Option.some.injEq,Prod.mk.injEq,decide_eq_true_eq] at h
  obtain ⟨h0,rfl,rfl⟩:=h
  exact ⟨rfl,_,by simp [binOp,Op.intDiv,h0],rfl⟩
 all_goals
  simp only [intOp,ok,okB,Option.some.injEq,Prod.mk.injEq,true_and] at h
  obtain ⟨rfl,rfl⟩:=h
  refine ⟨rfl,_,?_,rfl⟩
  simp only [binOp,ne_eq,not_true_eq_false,if_false,Op.intArith,Op.intBits,Op.intCmp]
  first | rfl | (simp only [Sem.run_pure]; congr 2; rw [Bool.eq_iff_iff]; simp)
theorem strOp_ok {g:Gh} {w:World} {op:BinOp} {a b:ByteArray} {t:TypeId} {v:AV} {e:Eff} (h:strOp op a b = some (true,v,e)) :
  e = .none∧∃ z,(binOp op t (.string a) (.string b)).run P w = .ok z w∧VR g v z:=by
 cases op <;> simp only [strOp,okIf,okB,Option.some.injEq,Prod.mk.injEq,true_and,reduceCtorEq] at h
 case add =>
  obtain ⟨h0,rfl,rfl⟩:=h
  simp only [catOk,decide_eq_true_eq] at h0
  refine ⟨rfl,.string (a++b),?_,rfl⟩
  have:¬ (((a.size + b.size:Nat):Int) > IntKind.i64.max):=by
   show ¬ (((a.size + b.size:Nat):Int) > 9223372036854775807)
   omega
  simp only [binOp,Op.stringOp,this,if_false]
  rfl
 all_goals
  obtain ⟨rfl,rfl⟩:=h
  refine ⟨rfl,_,by simp only [binOp,Op.stringOp]; rfl,?_⟩
  simp only [VR,VR1,GR,CR,toList_inj,strLt]
theorem eqV_ok {op:BinOp} {c:Bool} {v:AV} {e:Eff} (h:eqV op c = some (true,v,e)):e = .none∧((op = .eql∧v = .val .bool c) ∨ (op = .neq∧v = .val .bool (!c))):=by
 cases op <;> simp only [eqV,okB,Option.some.injEq,Prod.mk.injEq,true_and,reduceCtorEq] at h
 ·obtain ⟨rfl,rfl⟩:=h; exact ⟨rfl,.inl ⟨rfl,rfl⟩⟩
 ·obtain ⟨rfl,rfl⟩:=h; exact ⟨rfl,.inr ⟨rfl,rfl⟩⟩
theorem run_binOp_eq {w:World} {op:BinOp} {c:Bool} {t:TypeId} {a b:Value} {v:AV} {g:Gh} (hq:(Op.equal t a b).run P w = .ok c w) (hv:(op = .eql∧v = .val .bool c) ∨ (op = .neq∧v = .val .bool (!c)))
  (hb:binOp .eql t a b = (do pure (.bool (← Op.equal t a b)))) (hb':binOp .neq t a b = (do pure (.bool (!(← Op.equal t a b))))):∃ z,(binOp op t a b).run P w = .ok z w∧VR g v z:=by
 rcases hv with ⟨rfl,rfl⟩ | ⟨rfl,rfl⟩
 ·exact ⟨.bool c,by rw [hb,Sem.run_bind,hq]; rfl,rfl⟩
 ·exact ⟨.bool (!c),by rw [hb',Sem.run_bind,hq]; rfl,rfl⟩
theorem equal_depth (t:TypeId) (x y:Value):∃ d,Op.equal t x y = Op.equalIn (d + 1) t x y:=⟨9999,rfl⟩
theorem run_equal_ptr {w:World} {t e:TypeId} (hd:P.underlying t = some (.pointer e)) (b:Option Addr):(Op.equal t (.pointer b) (.pointer none)).run P w = .ok b.isNone w:=by
 obtain ⟨d,hq⟩:=equal_depth t (.pointer b) (.pointer none)
 rw [hq]
 cases b <;> simp [Op.equalIn,run_underlying hd]
theorem run_equal_bool {w:World} {t:TypeId} (hd:P.underlying t = some .bool) (a b:Bool):(Op.equal t (.bool a) (.bool b)).run P w = .ok (decide (a = b)) w:=by
 obtain ⟨d,hq⟩:=equal_depth t (.bool a) (.bool b)
 rw [hq]
 simp only [Op.equalIn,Sem.run_bind,run_underlying hd,Result.andThen_ok,Sem.run_pure]
 cases a <;> cases b <;> rfl
theorem run_equal_nils {w:World} {t e:TypeId} (hd:P.underlying t = some (.slice e)):(Op.equal t (.slice none 0 0) (.slice none 0 0)).run P w = .ok true w:=by
 obtain ⟨d,hq⟩:=equal_depth t (.slice none 0 0) (.slice none 0 0)
 rw [hq]
 simp [Op.equalIn,run_underlying hd]
theorem run_equal_nn {w:World} {t e:TypeId} (hd:P.underlying t = some (.slice e)) (a:Addr) (n c:Nat):(Op.equal t (.slice (some a) n c) (.slice none 0 0)).run P w = .ok false w:=by
 obtain ⟨d,hq⟩:=equal_depth t (.slice (some a) n c) (.slice none 0 0)
 rw [hq]
 simp [Op.equalIn,run_underlying hd]
theorem run_equal_nilf {w:World} {t:TypeId} {x y z} (hd:P.underlying t = some (.func x y z)):(Op.equal t .nilFunc .nilFunc).run P w = .ok true w:=by
 obtain ⟨d,hq⟩:=equal_depth t .nilFunc .nilFunc
 rw [hq]
 simp [Op.equalIn,run_underlying hd]
theorem run_equal_fn {w:World} {t:TypeId} {x y z} (hd:P.underlying t = some (.func x y z)) (f:Fn) (a b:Array Value):(Op.equal t (.func f a b) .nilFunc).run P w = .ok false w:=by
 obtain ⟨d,hq⟩:=equal_depth t (.func f a b) .nilFunc
 rw [hq]
 simp [Op.equalIn,run_underlying hd]
theorem run_part_one {w:World} {t:TypeId} {d:TypeDesc} (hd:P.underlying t = some d) (ha:aggB d = false) {xs:Array Value} {o:Nat} {v:Value} (h:xs[o]? = some v):(part t xs o).run P w = .ok v w:=by
 unfold part
 rw [Sem.run_bind,run_isAgg hd,ha]
 simp [h]
theorem run_eqFields (hC:CfgOK C P) {g:Gh} {w:World} (d:Nat) (xs ys:Array Value):∀ (fs:List Field) (i:Nat) (a b:List AV) (c:Bool),eqFieldsOk i fs = true→eqGs C (fs.map fun f=>(f.offset,f.type)) a b = some c →
  GsR g a (xs.toList.drop i)→GsR g b (ys.toList.drop i)→(Op.eqFields (d + 1) xs ys fs).run P w = .ok c w
 | [],i,a,b,c,_,h,_,_=>by
  simp only [List.map_nil] at h
  unfold eqGs at h
  split at h
  ·simp only [Option.some.injEq] at h; subst h; simp [Op.eqFields]
  all_goals first | (rename_i hh _ _; cases hh; done) | (cases h; done) | skip
  all_goals (rename_i hh; cases hh)
 | f :: fs,i,a,b,c,hf,h,ha,hb=>by
  simp only [eqFieldsOk,eqField,Bool.and_eq_true,Bool.not_eq_true'] at hf
  obtain ⟨⟨hn,ho⟩,hrest⟩:=hf
  have ho':=Nat.eq_of_beq_eq_true ho
  have hn' : ¬ f.name = "_" := by simpa using hn
  have one:∀ {u v:AV} {x y:Value} {a' b':List AV} {r c':Bool} {dd:TypeDesc},a = u :: a'→b = v :: b'→(∀ cs,GR g u cs→cs = [x])→(∀ cs,GR g v cs→cs = [y])→P.underlying f.type = some dd→aggB dd = false →
    (Op.equalIn (d + 1) f.type x y).run P w = .ok r w→eqGs C (fs.map fun f=>(f.offset,f.type)) a' b' = some c'→(Op.eqFields (d + 1) xs ys (f :: fs)).run P w = .ok (r && c') w:=by
   intro u v x y a' b' r c' dd hau hbv hu hv hd1 hd2 he hc'
   subst hau; subst hbv
   obtain ⟨c1,c2,e1,h1,h2⟩:=ha
   obtain ⟨d1,d2,e2,k1,k2⟩:=hb
   have h1':=hu _ h1
   have k1':=hv _ k1
   subst h1'; subst k1'
   have q1:xs.toList.drop (i + 1) = c2:=by rw [← List.drop_drop,e1]; rfl
   have q2:ys.toList.drop (i + 1) = d2:=by rw [← List.drop_drop,e2]; rfl
   have hxo:xs[f.offset]? = some x:=by
    rw [ho',← Array.getElem?_toList]
    have:=congrArg (fun l=>l[0]?) e1
    simpa using this
   have hyo:ys[f.offset]? = some y:=by
    rw [ho',← Array.getElem?_toList]
    have:=congrArg (fun l=>l[0]?) e2
    simpa using this
   have ih:=run_eqFields hC (w:=w) d xs ys fs (i + 1) a' b' c' hrest hc' (by rw [q1]; exact h2) (by rw [q2]; exact k2)
   simp only [Op.eqFields,ne_eq,hn',not_false_eq_true,if_true,Sem.run_bind,run_part_one hd1 hd2 hxo,run_part_one hd1 hd2 hyo,he,Result.andThen_ok]
   cases r
   ·simp
   ·simpa using ih
  simp only [List.map_cons] at h
  unfold eqGs at h
  split at h
  ·rename_i hh; cases hh
  ·rename_i o t fs' k x a' j y b' hh
   cases hh
   split at h
   ·rename_i k0 hu
    split at h
    ·rename_i hkj
     subst hkj
     rw [Option.map_eq_some_iff] at h
     obtain ⟨c',hc',rfl⟩:=h
     exact one (x:=.int k x) (y:=.int k y) rfl rfl (fun cs h=>h) (fun cs h=>h) (hC.int _ _ hu) rfl (run_equalIn_int w d f.type k k0 x y (hC.int _ _ hu)) hc'
    ·cases h
   ·cases h
  ·rename_i o t fs' x a' y b' hh
   cases hh
   split at h
   ·rename_i hu
    rw [Option.map_eq_some_iff] at h
    obtain ⟨c',hc',rfl⟩:=h
    refine one (x:=.bool x) (y:=.bool y) rfl rfl (fun cs h=>h) (fun cs h=>h) (hC.bool _ hu) rfl ?_ hc'
    rw [run_equalIn_bool' w d f.type x y (hC.bool _ hu)]
    congr 1
   ·cases h
  ·rename_i o t fs' x a' y b' hh
   cases hh
   split at h
   ·rename_i hu
    rw [Option.map_eq_some_iff] at h
    obtain ⟨c',hc',rfl⟩:=h
    refine one (x:=.string x) (y:=.string y) rfl rfl (fun cs h=>h) (fun cs h=>h) (hC.str _ hu) rfl ?_ hc'
    rw [run_equalIn_string w d f.type x y (hC.str _ hu),toList_inj]
   ·cases h
  ·cases h
def AV.isPtr:AV→Bool
 | .ptr .. | .rptr .. | .eptr ..=>true
 | _=>false
theorem ptr_form {g:Gh} {v:AV} {a:Value} (h:VR g v a) (hv:v.isPtr = true):∃ ad,a = .pointer (some ad):=by
 cases v <;> simp only [AV.isPtr,Bool.false_eq_true] at hv
 case ptr b o p =>
  have h':GR g (.ptr b o p) [a]:=h
  obtain ⟨_,_,_,_,_,_,e5⟩:=h'
  simp only [List.cons.injEq,and_true] at e5
  exact ⟨_,e5⟩
 case rptr b i o =>
  have h':GR g (.rptr b i o) [a]:=h
  obtain ⟨_,_,_,_,_,_,_,e5⟩:=h'
  simp only [List.cons.injEq,and_true] at e5
  exact ⟨_,e5⟩
 case eptr gs =>
  have h':GR g (.eptr gs) [a]:=h
  obtain ⟨_,_,_,e5,_⟩:=h'
  simp only [List.cons.injEq,and_true] at e5
  exact ⟨_,e5⟩
theorem binV_ok (hC:CfgOK C P) {g:Gh} {w:World} {op:BinOp} {t:Nat} {x y v:AV} {e:Eff} (h:binV C op t x y = some (true,v,e)) {a b:Value} (ha:VR g x a) (hb:VR g y b) (ox oy:Operand) :
  e = .none∧∃ z,(do eqGuard op t ox oy a b; binOp op t a b:Sem Value).run P w = .ok z w∧VR g v z:=by
 have fin:∀ {v:AV},a ≠ .nilIface→(∀ cs,a ≠ .agg cs)→(∃ z,(binOp op t a b).run P w = .ok z w∧VR g v z) →
   ∃ z,(do eqGuard op t ox oy a b; binOp op t a b:Sem Value).run P w = .ok z w∧VR g v z:=by
  rintro v h1 h2 ⟨z,h3,h4⟩
  exact ⟨z,by rw [Sem.run_bind,run_eqGuard h1 h2]; exact h3,h4⟩
 unfold binV at h
 split at h
 ·rename_i k p j q
  have ha':[a] = [Value.int k p]:=ha
  have hb':[b] = [Value.int j q]:=hb
  simp only [List.cons.injEq,and_true] at ha' hb'
  subst ha'
  subst hb'
  split at h
  ·obtain ⟨h1,h2⟩:=intOp_ok (w:=w) (t:=t) (g:=g) (P:=P) (j:=j) (.inl (.inl rfl)) h
   exact ⟨h1,fin (by simp) (by simp) h2⟩
  ·obtain ⟨h1,h2⟩:=intOp_ok (w:=w) (t:=t) (g:=g) (P:=P) (j:=j) (.inl (.inr rfl)) h
   exact ⟨h1,fin (by simp) (by simp) h2⟩
  ·split at h
   ·rename_i hkj
    obtain ⟨h1,h2⟩:=intOp_ok (w:=w) (t:=t) (g:=g) (P:=P) (j:=j) (.inr hkj) h
    exact ⟨h1,fin (by simp) (by simp) h2⟩
   ·cases h
 ·rename_i p q
  have ha':[a] = [Value.string p]:=ha
  have hb':[b] = [Value.string q]:=hb
  simp only [List.cons.injEq,and_true] at ha' hb'
  subst ha'
  subst hb'
  obtain ⟨h1,h2⟩:=strOp_ok (w:=w) (t:=t) (g:=g) (P:=P) h
  exact ⟨h1,fin (by simp) (by simp) h2⟩
 ·rename_i p q
  have ha':[a] = [Value.bool p]:=ha
  have hb':[b] = [Value.bool q]:=hb
  simp only [List.cons.injEq,and_true] at ha' hb'
  subst ha'
  subst hb'
  split at h
  ·rename_i hu
   obtain ⟨h1,h2⟩:=eqV_ok h
   exact ⟨h1,fin (by simp) (by simp) (run_binOp_eq (run_equal_bool (hC.bool _ hu) p q) h2 rfl rfl)⟩
  ·cases h
 ·have ha':[a] = [Value.pointer none]:=ha
  have hb':[b] = [Value.pointer none]:=hb
  simp only [List.cons.injEq,and_true] at ha' hb'
  subst ha'
  subst hb'
  split at h
  ·rename_i e' hu
   obtain ⟨h1,h2⟩:=eqV_ok h
   exact ⟨h1,fin (by simp) (by simp) (run_binOp_eq (run_equal_ptr (hC.ptr _ _ hu) none) h2 rfl rfl)⟩
  ·cases h
 iterate 3
  ·have hb':[b] = [Value.pointer none]:=hb
   simp only [List.cons.injEq,and_true] at hb'
   subst hb'
   have ha2:=ptr_form ha rfl
   obtain ⟨ad,rfl⟩:=ha2
   split at h
   ·rename_i e' hu
    obtain ⟨h1,h2⟩:=eqV_ok h
    exact ⟨h1,fin (by simp) (by simp) (run_binOp_eq (run_equal_ptr (hC.ptr _ _ hu) (some ad)) h2 rfl rfl)⟩
   ·cases h
 ·have ha':[a] = [Value.slice none 0 0]:=ha
  have hb':[b] = [Value.slice none 0 0]:=hb
  simp only [List.cons.injEq,and_true] at ha' hb'
  subst ha'
  subst hb'
  split at h
  ·rename_i e' hu
   obtain ⟨h1,h2⟩:=eqV_ok h
   exact ⟨h1,fin (by simp) (by simp) (run_binOp_eq (run_equal_nils (hC.sl _ _ hu)) h2 rfl rfl)⟩
  ·cases h
 ·have hb':[b] = [Value.slice none 0 0]:=hb
  simp only [List.cons.injEq,and_true] at hb'
  subst hb'
  obtain ⟨ad,n0,c0,rfl⟩:∃ ad n0 c0,a = Value.slice (some ad) n0 c0:=by
   rcases (show GR g (.nn _ _) [a] from ha) with ⟨_,ad,e5⟩ | ⟨blk,off,cap,cs',e5,_⟩
   ·simp only [List.cons.injEq,and_true] at e5
    exact ⟨_,_,_,e5⟩
   ·simp only [List.cons.injEq,and_true] at e5
    exact ⟨_,_,_,e5⟩
  split at h
  ·rename_i e' hu
   obtain ⟨h1,h2⟩:=eqV_ok h
   exact ⟨h1,fin (by simp) (by simp) (run_binOp_eq (run_equal_nn (hC.sl _ _ hu) _ _ _) h2 rfl rfl)⟩
  ·cases h
 ·have ha':[a] = [Value.nilFunc]:=ha
  have hb':[b] = [Value.nilFunc]:=hb
  simp only [List.cons.injEq,and_true] at ha' hb'
  subst ha'
  subst hb'
  split at h
  ·rename_i hu
   obtain ⟨_,_,_,hd⟩:=hC.fn _ hu
   obtain ⟨h1,h2⟩:=eqV_ok h
   exact ⟨h1,fin (by simp) (by simp) (run_binOp_eq (run_equal_nilf hd) h2 rfl rfl)⟩
  ·cases h
 ·have hb':[b] = [Value.nilFunc]:=hb
  simp only [List.cons.injEq,and_true] at hb'
  subst hb'
  obtain ⟨vs,e5,_⟩:=(show GR g (.fn _ _) [a] from ha)
  simp only [List.cons.injEq,and_true] at e5
  subst e5
  split at h
  ·rename_i hu
   obtain ⟨_,_,_,hd⟩:=hC.fn _ hu
   obtain ⟨h1,h2⟩:=eqV_ok h
   exact ⟨h1,fin (by simp) (by simp) (run_binOp_eq (run_equal_fn hd _ _ _) h2 rfl rfl)⟩
  ·cases h
 ·rename_i ga gb
  split at h
  ·rename_i fs hu
   split at h
   ·rename_i hq
    split at h
    ·rename_i c hc
     obtain ⟨xs,rfl,hx⟩:=ha
     obtain ⟨ys,rfl,hy⟩:=hb
     obtain ⟨e1,e2,e3,e4⟩:=hC.eqs t hq
     obtain ⟨fields,f1,f2⟩:=hC.st t fs hu
     rw [e1] at f1
     cases f1
     have hr:(Op.equalIn 10000 t (.agg xs) (.agg ys)).run P w = .ok c w:=by
      rw [run_equalIn_agg w 9999 t xs ys e1 e2]
      exact run_eqFields hC 9998 xs ys _ 0 ga gb c e4 (by rw [f2]; exact hc) (by simpa using hx) (by simpa using hy)
     obtain ⟨rfl,h2⟩:=eqV_ok h
     refine ⟨rfl,?_⟩
     rcases h2 with ⟨rfl,rfl⟩ | ⟨rfl,rfl⟩
     ·exact ⟨.bool c,by rw [Sem.run_bind,run_eqGuard_agg w .eql t ox oy xs ys e3,Result.andThen_ok,run_eql_struct,hr]; rfl,rfl⟩
     ·exact ⟨.bool (!c),by rw [Sem.run_bind,run_eqGuard_agg w .neq t ox oy xs ys e3,Result.andThen_ok,run_neq_struct,hr]; rfl,rfl⟩
    ·cases h
   ·cases h
  ·cases h
 ·cases h
theorem unV_ok {g:Gh} {w:World} {op:UnOp} {x v:AV} {c:Bool} {e:Eff} (h:unV op x = some (c,v,e)) {a:Value} (ha:VR g x a):e = .none∧∃ z,(Op.unary op a).run P w = .ok z w∧VR g v z:=by
 unfold unV at h
 split at h
 ·rename_i k n
  have ha':[a] = [Value.int k n]:=ha
  simp only [List.cons.injEq,and_true] at ha'
  subst ha'
  simp only [ok,Option.some.injEq,Prod.mk.injEq] at h
  obtain ⟨_,rfl,rfl⟩:=h
  exact ⟨rfl,_,rfl,rfl⟩
 ·rename_i k n
  have ha':[a] = [Value.int k n]:=ha
  simp only [List.cons.injEq,and_true] at ha'
  subst ha'
  simp only [ok,Option.some.injEq,Prod.mk.injEq] at h
  obtain ⟨_,rfl,rfl⟩:=h
  exact ⟨rfl,_,rfl,rfl⟩
 ·rename_i b
  have ha':[a] = [Value.bool b]:=ha
  simp only [List.cons.injEq,and_true] at ha'
  subst ha'
  simp only [ok,Option.some.injEq,Prod.mk.injEq] at h
  obtain ⟨_,rfl,rfl⟩:=h
  exact ⟨rfl,_,rfl,rfl⟩
 ·cases h
end
end Go.V
namespace Go.V
variable [Codes]
section
variable {C:Cfg} {P:Program}
def LoR (i:Option Int) (v:Option Value):Prop :=
 match i,v with
 | none,none=>True
 | some i,some v=>∃ k,v = .int k i
 | _,_=>False
theorem run_bounds {w:World} {isS:Bool} {len cap:Nat} {lo hi:Option Int} {lo' hi':Option Value} (h1:LoR lo lo') (h2:LoR hi hi') (hc:cutOk len lo hi = true) (hl:len≤cap) :
  (Instr.sliceBounds isS len cap lo' hi' none).run P w = .ok (cutFrom lo,cutFrom lo + cutLen len lo hi,cap) w∧cutFrom lo + cutLen len lo hi≤len:=by
 cases lo with
 | none =>
  cases lo' with
  | some _=>exact h1.elim
  | none =>
   cases hi with
   | none =>
    cases hi' with
    | some _=>exact h2.elim
    | none=>refine ⟨?_,by simp [cutFrom,cutLen,cutHi]⟩; simp [Instr.sliceBounds,cutFrom,cutLen,cutHi]
   | some b =>
    cases hi' with
    | none=>exact h2.elim
    | some v =>
     obtain ⟨k,rfl⟩:=h2
     simp only [cutOk,Bool.and_eq_true,decide_eq_true_eq] at hc
     refine ⟨?_,by simp only [cutFrom,cutLen,cutHi,Option.getD_none,Int.toNat_zero]; omega⟩
     simp [Instr.sliceBounds,cutFrom,cutLen,cutHi,run_sliceBound w k b cap _ hc.1 (by omega)]
 | some a =>
  cases lo' with
  | none=>exact h1.elim
  | some v =>
   obtain ⟨k,rfl⟩:=h1
   cases hi with
   | none =>
    cases hi' with
    | some _=>exact h2.elim
    | none =>
     simp only [cutOk,Bool.and_eq_true,decide_eq_true_eq] at hc
     refine ⟨?_,by simp only [cutFrom,cutLen,cutHi,Option.getD_some]; omega⟩
     simp [Instr.sliceBounds,cutFrom,cutLen,cutHi,run_sliceBound w k a len _ hc.1 (by omega)]
     omega
   | some b =>
    cases hi' with
    | none=>exact h2.elim
    | some v =>
     obtain ⟨k',rfl⟩:=h2
     simp only [cutOk,Bool.and_eq_true,decide_eq_true_eq] at hc
     refine ⟨?_,by simp only [cutFrom,cutLen,cutHi,Option.getD_some]; omega⟩
     simp [Instr.sliceBounds,cutFrom,cutLen,cutHi,run_sliceBound w k' b cap _ (show 0≤b by omega) (by omega),run_sliceBound w k a b.toNat _ hc.1.1 (by omega)]
     omega
theorem run_bounds3 {w:World} {len cap:Nat} {lo:Option Int} {h:Int} {lo' hi' mx':Option Value} (h1:LoR lo lo') (h2:LoR (some h) hi') (h3:LoR (some h) mx') (hc:cutOk len lo (some h) = true) (hl:len≤cap) :
  (Instr.sliceBounds true len cap lo' hi' mx').run P w = .ok (cutFrom lo,cutFrom lo + cutLen len lo (some h),cutFrom lo + cutLen len lo (some h)) w∧cutFrom lo + cutLen len lo (some h)≤len:=by
 cases hi' with
 | none=>exact h2.elim
 | some v =>
  obtain ⟨k,rfl⟩:=h2
  cases mx' with
  | none=>exact h3.elim
  | some v =>
   obtain ⟨k',rfl⟩:=h3
   cases lo with
   | none =>
    cases lo' with
    | some _=>exact h1.elim
    | none =>
     simp only [cutOk,Bool.and_eq_true,decide_eq_true_eq] at hc
     refine ⟨?_,by simp only [cutFrom,cutLen,cutHi,Option.getD_none,Int.toNat_zero]; omega⟩
     simp [Instr.sliceBounds,cutFrom,cutLen,cutHi,run_sliceBound w k' h cap _ hc.1 (by omega),run_sliceBound w k h h.toNat _ hc.1 (by omega)]
   | some a =>
    cases lo' with
    | none=>exact h1.elim
    | some v =>
     obtain ⟨k2,rfl⟩:=h1
     simp only [cutOk,Bool.and_eq_true,decide_eq_true_eq] at hc
     refine ⟨?_,by simp only [cutFrom,cutLen,cutHi,Option.getD_some]; omega⟩
     simp [Instr.sliceBounds,cutFrom,cutLen,cutHi,run_sliceBound w k' h cap _ (show 0≤h by omega) (by omega),run_sliceBound w k h h.toNat _ (show 0≤h by omega) (by omega),run_sliceBound w k2 a h.toNat _ hc.1.1 (by omega)]
     omega
theorem cutL_eq {α:Type} (l:List α) (lo hi:Option Int) (hc:cutOk l.length lo hi = true):cutL l lo hi = (l.drop (cutFrom lo)).take (cutLen l.length lo hi):=by
 cases lo <;> cases hi <;> simp only [cutL,cutFrom,cutLen,cutHi,Option.getD_none,Option.getD_some,Int.toNat_zero,List.drop_zero,Nat.sub_zero]
 ·rw [List.take_of_length_le (Nat.le_refl _)]
 ·rw [List.take_of_length_le (by rw [List.length_drop]; omega)]
 ·rw [List.drop_take]
theorem cutL_len {α:Type} (l:List α) (lo hi:Option Int) (hc:cutOk l.length lo hi = true) (hb:cutFrom lo + cutLen l.length lo hi≤l.length):(cutL l lo hi).length = cutLen l.length lo hi:=by
 rw [cutL_eq l lo hi hc,List.length_take,List.length_drop]
 omega
theorem run_slice_sl {w:World} {t e:Nat} {i:TypeInfo} (hd:P.underlying t = some (.slice e)) (hi:P.info? e = some i) {a:Option Addr} {n cap:Nat} {lo' hi' mx':Option Value} {l h m:Nat}
  (hb:(Instr.sliceBounds true n cap lo' hi' mx').run P w = .ok (l,h,m) w) :
  (Instr.sliceAt t (.slice a n cap) lo' hi' mx').run P w = .ok (.slice (if m = l then a else a.map (·.add (l * i.size))) (h - l) (m - l)) w:=by
 simp [Instr.sliceAt,Instr.slice,run_underlying hd,hb,run_sizeOf hi]
theorem sliceV_ok (hC:CfgOK C P) {g:Gh} {s:St} {tm:Array Value} {tms:List (Array Value)} {w:World} (hs:StR g s tm tms w) {t:Nat} {x v:AV} {lo hi mx:Option Int} {e:Eff} (h:sliceV C s.bxs t x lo hi mx = some (true,v,e)) {a:Value}
  (ha:VR g x a) {lo' hi' mx':Option Value} (h1:LoR lo lo') (h2:LoR hi hi') (h3:LoR mx mx'):e = .none∧∃ z,(Instr.sliceAt t a lo' hi' mx').run P w = .ok z w∧VR g v z:=by
 unfold sliceV at h
 split at h
 ·rename_i hu
  split at h
  ·rename_i s'
   simp only [okIf,Option.some.injEq,Prod.mk.injEq] at h
   obtain ⟨hc,rfl,rfl⟩:=h
   cases mx' with
   | some _=>exact h3.elim
   | none =>
    have ha':[a] = [Value.string s']:=ha
    simp only [List.cons.injEq,and_true] at ha'
    subst ha'
    obtain ⟨hb,_⟩:=run_bounds (P:=P) (w:=w) (isS:=false) h1 h2 hc (Nat.le_refl _)
    refine ⟨rfl,.string (cutS s' lo hi),?_,rfl⟩
    have e1:cutFrom lo + cutLen s'.size lo hi = cutHi s'.size hi:=by
     cases lo <;> cases hi <;> simp only [cutOk,Bool.and_eq_true,decide_eq_true_eq] at hc <;> simp only [cutFrom,cutLen,cutHi,Option.getD_none,Option.getD_some,Int.toNat_zero] <;> omega
    simp only [Instr.sliceAt,Instr.slice,Sem.run_bind,run_underlying (hC.str _ hu),Result.andThen_ok,Option.isSome_none,Bool.false_eq_true,if_false,hb,Sem.run_pure,e1]
    rfl
  ·cases h
 ·rename_i e' hu
  have hd:=hC.sl _ _ hu
  split at h
  ·cases h
  ·rename_i hz
   obtain ⟨inf,hinf,his,_⟩:=hC.size _ hz
   split at h
   ·rename_i b wn
    split at h
    ·rename_i T fz l hb
     split at h
     ·rename_i hT
      have ha':GR g (.row b wn) [a]:=ha
      obtain ⟨gb,v0,e1,e2,e3,hw⟩:=ha'
      simp only [List.cons.injEq,and_true] at e3
      subst e3
      obtain ⟨gb',k1,k2⟩:=hs.bxs.box _ _ hb
      rw [e1] at k1
      cases k1
      have hlen:gb.len = l.length:=k2.2.2.1
      have hcap:gb.len≤gb.cap:=k2.2.2.2.1
      have hsz:gb.sz = inf.size:=by rw [k2.2.1,hT,his]
      split at h
      ·cases mx' with
       | some _=>exact h3.elim
       | none =>
        split at h
        ·simp only [okIf,Option.some.injEq,Prod.mk.injEq] at h
         obtain ⟨hc,rfl,rfl⟩:=h
         cases hblk:gb.blk with
         | none =>
          simp only [WinR,hblk] at hw
          obtain ⟨rfl,h0⟩:=hw
          have hl0:l.length = 0:=by omega
          rw [hl0] at hc
          obtain ⟨hbd,hle⟩:=run_bounds (P:=P) (w:=w) (isS:=true) h1 h2 hc (Nat.le_refl 0)
          refine ⟨rfl,_,run_slice_sl hd hinf hbd,gb,_,e1,e2,rfl,?_⟩
          simp only [WinR,hblk,hl0]
          have h4:cutFrom lo = 0:=by omega
          have h5:cutLen 0 lo hi = 0:=by omega
          simp [h4,h5,h0]
         | some blk =>
          simp only [WinR,hblk] at hw
          subst hw
          rw [← hlen] at hc ⊢
          obtain ⟨hbd,hle⟩:=run_bounds (P:=P) (w:=w) (isS:=true) h1 h2 hc hcap
          refine ⟨rfl,_,run_slice_sl hd hinf hbd,gb,_,e1,e2,rfl,?_⟩
          simp only [WinR,hblk,Nat.add_sub_cancel_left]
          by_cases hm:gb.cap = cutFrom lo
          ·rw [if_pos hm]
           exact ⟨hle,_,_,rfl,rfl,by omega,(fun h=>nomatch h),by omega,.inl (by omega)⟩
          ·rw [if_neg hm,Option.map_some,add_lit']
           exact ⟨hle,_,_,rfl,rfl,by omega,(fun h=>nomatch h),by omega,.inr (by rw [hsz])⟩
        ·rename_i off n full
         simp only [okIf,Option.some.injEq,Prod.mk.injEq] at h
         obtain ⟨hc,rfl,rfl⟩:=h
         cases hblk:gb.blk with
         | none =>
          simp only [WinR,hblk] at hw
          obtain ⟨rfl,rfl,h0,rfl⟩:=hw
          obtain ⟨hbd,hle⟩:=run_bounds (P:=P) (w:=w) (isS:=true) h1 h2 hc (Nat.le_refl 0)
          refine ⟨rfl,_,run_slice_sl hd hinf hbd,gb,_,e1,e2,rfl,?_⟩
          simp only [WinR,hblk]
          have h4:cutFrom lo = 0:=by omega
          have h5:cutLen 0 lo hi = 0:=by omega
          simp [h4,h5,h0]
         | some blk =>
          simp only [WinR,hblk] at hw
          obtain ⟨w1,a0,c,rfl,wsp,w2,w3,w4,w5⟩:=hw
          obtain ⟨hbd,hle⟩:=run_bounds (P:=P) (w:=w) (isS:=true) h1 h2 hc w2
          refine ⟨rfl,_,run_slice_sl hd hinf hbd,gb,_,e1,e2,rfl,?_⟩
          simp only [WinR,hblk,Nat.add_sub_cancel_left]
          by_cases hm:c = cutFrom lo
          ·rw [if_pos hm]
           exact ⟨by omega,_,_,rfl,wsp,by omega,(fun h=>nomatch h),by omega,.inl (by omega)⟩
          ·rw [if_neg hm,Option.map_some]
           have ha0:a0 = ⟨blk,gb.off + off * gb.sz,none⟩:=by
            rcases w5 with h0 | h0
            ·omega
            ·exact h0
           subst ha0
           rw [add_lit']
           exact ⟨by omega,_,_,rfl,rfl,by omega,(fun h=>nomatch h),by omega,.inr (by rw [Nat.add_mul,hsz,Nat.add_assoc])⟩
      ·rename_i m
       split at h
       ·rename_i h'
        simp only [okIf,Option.some.injEq,Prod.mk.injEq,Bool.and_eq_true,decide_eq_true_eq] at h
        obtain ⟨⟨hc,hhm⟩,rfl,rfl⟩:=h
        subst hhm
        cases hblk:gb.blk with
        | none =>
         simp only [WinR,hblk] at hw
         obtain ⟨rfl,h0⟩:=hw
         have hl0:l.length = 0:=by omega
         rw [hl0] at hc
         obtain ⟨hbd,hle⟩:=run_bounds3 (P:=P) (w:=w) h1 h2 h3 hc (Nat.le_refl 0)
         refine ⟨rfl,_,run_slice_sl hd hinf hbd,gb,_,e1,e2,rfl,?_⟩
         simp only [WinR,hblk,hl0]
         have h4:cutFrom lo = 0:=by omega
         have h5:cutLen 0 lo (some h') = 0:=by omega
         simp [h4,h5,h0]
        | some blk =>
         simp only [WinR,hblk] at hw
         subst hw
         rw [← hlen] at hc ⊢
         obtain ⟨hbd,hle⟩:=run_bounds3 (P:=P) (w:=w) h1 h2 h3 hc hcap
         refine ⟨rfl,_,run_slice_sl hd hinf hbd,gb,_,e1,e2,rfl,?_⟩
         simp only [WinR,hblk,Nat.add_sub_cancel_left]
         by_cases hm:cutFrom lo + cutLen gb.len lo (some h') = cutFrom lo
         ·rw [if_pos hm]
          exact ⟨hle,_,_,rfl,rfl,Nat.le_refl _,fun _=>rfl,by omega,.inl (by omega)⟩
         ·rw [if_neg hm,Option.map_some,add_lit']
          exact ⟨hle,_,_,rfl,rfl,Nat.le_refl _,fun _=>rfl,by omega,.inr (by rw [hsz])⟩
       ·cases h
     ·cases h
    ·cases h
   ·rename_i hx
    split at h
    ·rename_i T l hv
     split at h
     ·rename_i hT
      split at h
      ·cases mx' with
       | some _=>exact h3.elim
       | none =>
        simp only [okIf,Option.some.injEq,Prod.mk.injEq] at h
        obtain ⟨hc,rfl,rfl⟩:=h
        obtain ⟨ad,cap,rfl,q1,q2⟩:=viewT_ok hs hv ha
        obtain ⟨hbd,hle⟩:=run_bounds (P:=P) (w:=w) (isS:=true) h1 h2 hc q1
        refine ⟨rfl,_,run_slice_sl hd hinf hbd,_,rfl,?_⟩
        have hcl:=cutL_len l lo hi hc hle
        rcases q2 with ⟨rfl,rfl,rfl⟩ | ⟨blk,off,cs,rfl,q3,q4,q5⟩
        ·have h4:cutFrom lo = 0:=by simp only [List.length_nil] at hle; omega
         have h5:cutLen 0 lo hi = 0:=by simp only [List.length_nil] at hle; omega
         refine .inl ⟨List.eq_nil_of_length_eq_zero (by rw [hcl]; exact h5),?_⟩
         simp [h4,h5]
        ·have hfz:=q5 (fun b wn e=>hx b wn e)
         rw [Nat.add_sub_cancel_left,← hcl]
         by_cases hm:cap = cutFrom lo
         ·rw [if_pos hm]
          have h0:cutL l lo hi = []:=List.eq_nil_of_length_eq_zero (by rw [hcl]; omega)
          rw [h0]
          exact .inr ⟨blk,off,_,[],rfl,by simp,rfl,fun j v e=>by simp at e⟩
         ·rw [if_neg hm,Option.map_some,add_lit']
          refine .inr ⟨blk,_,_,(cs.drop (cutFrom lo * T.size)).take (cutLen l.length lo hi * T.size),rfl,by rw [hcl]; omega,?_,?_⟩
          ·rw [cutL_eq l lo hi hc]
           have hT':∀ (x:T.den) (cs:List Value),CR g.fz T x cs→cs.length = T.size:=fun x cs h=>h.length
           have hs1:=q3.split hT' (cutFrom lo) (by omega)
           exact (hs1.2.split hT' (cutLen l.length lo hi) (by rw [List.length_drop]; omega)).1
          ·intro j v e
           rw [List.getElem?_take] at e
           split at e
           ·rw [List.getElem?_drop] at e
            rw [his,← hT,Nat.add_assoc]
            exact hfz _ v e
           ·cases e
      ·rename_i m
       split at h
       ·rename_i h'
        obtain ⟨ad,cap,rfl,q1,q2⟩:=viewT_ok hs hv ha
        split at h
        ·-- nil
         simp only [okIf,Option.some.injEq,Prod.mk.injEq,Bool.and_eq_true,decide_eq_true_eq] at h
         obtain ⟨⟨hc,hhm⟩,rfl,rfl⟩:=h
         subst hhm
         have hx':[Value.slice ad l.length cap] = [Value.slice none 0 0]:=ha
         simp only [List.cons.injEq,Value.slice.injEq,and_true] at hx'
         obtain ⟨rfl,hl0,rfl⟩:=hx'
         obtain ⟨hbd,hle⟩:=run_bounds3 (P:=P) (w:=w) h1 h2 h3 hc q1
         refine ⟨rfl,_,run_slice_sl hd hinf hbd,?_⟩
         have h4:cutFrom lo = 0:=by omega
         have h5:cutLen l.length lo (some h') = 0:=by omega
         show [_] = [Value.slice none 0 0]
         simp [h4,h5]
        ·simp only [okIf,Option.some.injEq,Prod.mk.injEq,Bool.and_eq_true,decide_eq_true_eq] at h
         obtain ⟨⟨hc,hhm⟩,rfl,rfl⟩:=h
         subst hhm
         obtain ⟨hbd,hle⟩:=run_bounds3 (P:=P) (w:=w) h1 h2 h3 hc q1
         refine ⟨rfl,_,run_slice_sl hd hinf hbd,?_⟩
         have hcl:=cutL_len l lo (some h') hc hle
         rcases q2 with ⟨rfl,rfl,rfl⟩ | ⟨blk,off,cs,rfl,q3,q4,q5⟩
         ·have h4:cutFrom lo = 0:=by simp only [List.length_nil] at hle; omega
          have h5:cutLen 0 lo (some h') = 0:=by simp only [List.length_nil] at hle; omega
          refine .inl ⟨List.eq_nil_of_length_eq_zero (by rw [hcl]; exact h5),?_⟩
          simp [h4,h5]
         ·have hfz:=q5 (fun b wn e=>hx b wn e)
          rw [Nat.add_sub_cancel_left,← hcl]
          by_cases hm:cutFrom lo + cutLen l.length lo (some h') = cutFrom lo
          ·rw [hcl,if_pos hm]
           have h0:cutL l lo (some h') = []:=List.eq_nil_of_length_eq_zero (by rw [hcl]; omega)
           have h5:cutLen l.length lo (some h') = 0:=by omega
           rw [h0,h5]
           exact .inr ⟨blk,off,[],rfl,rfl,fun j v e=>by simp at e⟩
          ·rw [hcl,if_neg hm,Option.map_some,add_lit']
           refine .inr ⟨blk,_,(cs.drop (cutFrom lo * T.size)).take (cutLen l.length lo (some h') * T.size),by rw [hcl],?_,?_⟩
           ·rw [cutL_eq l lo (some h') hc]
            have hT':∀ (x:T.den) (cs:List Value),CR g.fz T x cs→cs.length = T.size:=fun x cs h=>h.length
            have hs1:=q3.split hT' (cutFrom lo) (by omega)
            exact (hs1.2.split hT' (cutLen l.length lo (some h')) (by rw [List.length_drop]; omega)).1
           ·intro j v e
            rw [List.getElem?_take] at e
            split at e
            ·rw [List.getElem?_drop] at e
             rw [his,← hT,Nat.add_assoc]
             exact hfz _ v e
            ·cases e
       ·cases h
     ·cases h
    ·cases h
 ·rename_i n e' hu
  have hd:=hC.arr _ _ _ hu
  split at h
  ·rename_i b off
   split at h
   ·rename_i h1s
    cases mx' with
    | some _=>exact h3.elim
    | none =>
     simp only [okIf,Option.some.injEq,Prod.mk.injEq] at h
     obtain ⟨hc,rfl,rfl⟩:=h
     obtain ⟨inf,hinf,his,_⟩:=hC.size e' (by omega)
     have ha':GR g (.ptr b off []) [a]:=ha
     obtain ⟨gb,blk,e1,e2,e3,e4,e5⟩:=ha'
     simp only [List.cons.injEq,and_true,stepsOff,Nat.add_zero] at e5
     subst e5
     obtain ⟨hbd,hle⟩:=run_bounds (P:=P) (w:=w) (isS:=false) h1 h2 hc (Nat.le_refl n)
     refine ⟨rfl,.slice (some (if n = cutFrom lo then ⟨blk,off,none⟩ else (⟨blk,off,none⟩:Addr).add (cutFrom lo * inf.size))) (cutLen n lo hi) (n - cutFrom lo),?_,?_⟩
     ·simp [Instr.sliceAt,run_underlying hd,Instr.sureAddr,hbd,run_sizeOf hinf]
     ·refine ⟨gb,blk,n - cutFrom lo,e1,e2,e3,by omega,by omega,_,rfl,?_,?_⟩
      ·split <;> simp [add_lit']
      ·by_cases hm:n = cutFrom lo
       ·exact .inl (by omega)
       ·rw [if_neg hm,add_lit',his,h1s,Nat.mul_one]
        exact .inr rfl
   ·cases h
  ·rename_i k T l
   split at h
   ·rename_i hcond
    obtain ⟨rfl,hTs,hnz⟩:=hcond
    cases mx' with
    | some _=>exact h3.elim
    | none =>
     simp only [okIf,Option.some.injEq,Prod.mk.injEq] at h
     obtain ⟨hc,rfl,rfl⟩:=h
     obtain ⟨inf,hinf,his,_⟩:=hC.size e' hnz
     have ha':GR g (.eptr [.val (.arr k T) l]) [a]:=ha
     obtain ⟨blk,off,cs',e1,e2,e3⟩:=ha'
     simp only [List.cons.injEq,and_true] at e1
     subst e1
     obtain ⟨c1,c2,rfl,⟨hlen,hel⟩,hc2⟩:=e2
     have hc2':c2 = []:=hc2
     subst hc2'
     rw [List.append_nil] at e3
     obtain ⟨hbd,hle⟩:=run_bounds (P:=P) (w:=w) (isS:=false) h1 h2 hc (Nat.le_refl k)
     refine ⟨rfl,.slice (some (if k = cutFrom lo then ⟨blk,off,none⟩ else (⟨blk,off,none⟩:Addr).add (cutFrom lo * inf.size))) (cutLen k lo hi) (k - cutFrom lo),?_,_,rfl,?_⟩
     ·simp [Instr.sliceAt,run_underlying hd,Instr.sureAddr,hbd,run_sizeOf hinf]
     ·rw [← hlen] at hc hle ⊢
      have hcl:=cutL_len l lo hi hc hle
      rw [← hcl]
      by_cases hm:l.length = cutFrom lo
      ·rw [if_pos hm]
       have h0:cutL l lo hi = []:=List.eq_nil_of_length_eq_zero (by rw [hcl]; omega)
       rw [h0]
       exact .inr ⟨blk,off,_,[],rfl,by simp,rfl,fun j v e=>by simp at e⟩
      ·rw [if_neg hm,add_lit']
       refine .inr ⟨blk,_,_,(c1.drop (cutFrom lo * T.size)).take (cutLen l.length lo hi * T.size),rfl,by rw [hcl]; omega,?_,?_⟩
       ·rw [cutL_eq l lo hi hc]
        have hT':∀ (x:T.den) (cs:List Value),CR g.fz T x cs→cs.length = T.size:=fun x cs h=>h.length
        have hs1:=hel.split hT' (cutFrom lo) (by omega)
        exact (hs1.2.split hT' (cutLen l.length lo hi) (by rw [List.length_drop]; omega)).1
       ·intro j v e
        rw [List.getElem?_take] at e
        split at e
        ·rw [List.getElem?_drop] at e
         rw [his,← hTs,Nat.add_assoc]
         exact e3 _ v e
        ·cases e
   ·cases h
  ·cases h
 ·cases h
end
end Go.V
namespace Go.V
variable [Codes]
section
variable {C:Cfg} {P:Program}
structure Gives (P:Program) (w:World) (size:Nat) (y:Value) (n:Nat) (news:List Value):Prop where
 len:∀ w',(Builtin.lenOf y).run P w' = .ok n w'
 cells:∀ w',(∀ b,b < w.heap.size→w'.heap[b]? = w.heap[b]?)→∀ k,k≤n→(Builtin.firstCells size k y).run P w' = .ok (news.take (k * size)).toArray w'
theorem CellsAt.grow {w w':World} (hw:∀ b,b < w.heap.size→w'.heap[b]? = w.heap[b]?) {blk off:Nat} {cs:List Value} (h:CellsAt w blk off cs):CellsAt w' blk off cs:=fun j v e=>by
 have h1:=h j v e
 rw [← h1]
 exact World.cell?_of_block (hw blk (World.block_lt_of_cell? w _ h1))
theorem gives_slice {w:World} {size blk off n c:Nat} {cs:List Value} (h:CellsAt w blk off cs) (hl:cs.length = n * size):Gives P w size (.slice (some ⟨blk,off,none⟩) n c) n cs :=
 ⟨fun w'=>rfl,fun w' hw k hk=>by
  have h1:=(h.grow hw).take (k * size)
  have h2:(cs.take (k * size)).length = k * size:=by
   rw [List.length_take,hl]
   exact Nat.min_eq_left (Nat.mul_le_mul_right _ hk)
  have h3:=run_loadCells' (P:=P) h1
  rw [h2] at h3
  exact h3⟩
theorem gives_nil {w:World} {size n c:Nat} (_hn:n = 0):Gives P w size (.slice none n c) n [] :=
 ⟨fun w'=>rfl,fun w' hw k hk=>by simp [Builtin.firstCells]⟩
theorem gives_none {w:World} {size c:Nat} (a:Option Addr):Gives P w size (.slice a 0 c) 0 [] :=
 ⟨fun w'=>rfl,fun w' hw k hk=>by
  obtain rfl:k = 0:=by omega
  cases a <;> simp [Builtin.firstCells,loadCells,loadCellsFrom]⟩
theorem toBytes_length (s:ByteArray):(toBytes s).length = s.size:=by
 simp [toBytes]
theorem gives_str {w:World} (s:ByteArray):Gives P w 1 (.string s) s.size ((toBytes s).map (Value.int .u8)) :=
 ⟨fun w'=>rfl,fun w' hw k hk=>by
  simp only [Builtin.firstCells,Sem.run_pure,Nat.mul_one]
  congr 1
  apply Array.ext'
  simp only [Array.toList_map,toBytes,List.map_map,← List.map_take]
  have:(s.extract 0 k).data.toList = s.data.toList.take k:=by
   simp [ByteArray.extract,ByteArray.copySlice]
  rw [this]
  rfl⟩
def slStr (d:TypeDesc):Prop:=d = .string ∨ ∃ e,d = .slice e
theorem run_append_in {w w' : World} {t yt ty e : TypeId} {i : TypeInfo} {d : TypeDesc} (ht : P.underlying t = some (.slice e)) (hyt : P.underlying yt = some d) (hd : slStr d) (hi : P.info? e = some i)
    {base : Option Addr} {n c k : Nat} {y : Value} {news : List Value} (hy : Gives P w i.size y k news) (hl : news.length = k * i.size) (hroom : n + k ≤ c)
    (hst : match base with | some a => (storeCells (a.add (n * i.size)) news).run P w = .ok () w' | none => w' = w) :
    (Builtin.append_ #[t, yt] ty #[.slice base n c, y]).run P w = .ok (.slice base (n + k) c) w' := by
  have h1 := hy.len w
  have h2 := hy.cells w (fun _ _ => rfl) k (Nat.le_refl _)
  rw [← hl, List.take_length] at h2
  cases base with
  | none =>
    simp only at hst
    subst hst
    rcases hd with rfl | ⟨e2, rfl⟩ <;>
    simp [Builtin.append_, run_underlying ht, run_underlying hyt, sizeOf, typeInfo, hi, h1, h2, hroom]
  | some a =>
    simp only at hst
    rcases hd with rfl | ⟨e2, rfl⟩ <;>
    simp [Builtin.append_, run_underlying ht, run_underlying hyt, sizeOf, typeInfo, hi, h1, h2, hroom, hst]
theorem run_append_out {w : World} {t yt ty e : TypeId} {i : TypeInfo} {d : TypeDesc} {z : Value} (ht : P.underlying t = some (.slice e)) (hyt : P.underlying yt = some d) (hd : slStr d) (hi : P.info? e = some i) (hz : i.zero = some z)
    {base : Option Addr} {n c k : Nat} {y : Value} {olds news : List Value} (ho : Gives P w i.size (.slice base n c) n olds) (hol : olds.length = n * i.size) (hy : Gives P w i.size y k news) (hl : news.length = k * i.size) (hroom : c < n + k)
    (h63 : ((n + k : Nat) : Int) ≤ 9223372036854775807) (hfit : Builtin.nextslicecap (n + k) c * i.bytes ≤ 281474976710656) :
    (Builtin.append_ #[t, yt] ty #[.slice base n c, y]).run P w =
      .ok (.slice (some ⟨w.heap.size, 0, none⟩) (n + k) (grownCap w (n + k) c e)) (w.drew.alloc (.cells (olds ++ news ++ (Builtin.zeroCells z.cells (grownCap w (n + k) c e - (n + k))).toList).toArray e)) := by
  have h1 := hy.len w
  have h2 := hy.cells w.drew (fun _ _ => rfl) k (Nat.le_refl _)
  rw [← hl, List.take_length] at h2
  have h3 := ho.cells w.drew (fun _ _ => rfl) n (Nat.le_refl _)
  rw [← hol, List.take_length] at h3
  have hn : ¬ (n + k ≤ c) := by omega
  have h63' : ¬ (9223372036854775807 < ((n : Int) + (k : Int))) := by omega
  have h48' : ¬ (281474976710656 < Builtin.nextslicecap (n + k) c * i.bytes) := by omega
  have e1 : (olds ++ news ++ (Builtin.zeroCells z.cells (grownCap w (n + k) c e - (n + k))).toList).toArray = olds.toArray ++ news.toArray ++ Builtin.zeroCells z.cells (grownCap w (n + k) c e - (n + k)) := by
    apply Array.ext'
    simp
  rw [e1]
  rcases hd with rfl | ⟨e2, rfl⟩ <;>
  simp [Builtin.append_, run_underlying ht, run_underlying hyt, sizeOf, typeInfo, zeroValue, hi, hz, h1, hn, h63', h48', Question.forced, h2, h3, newRow, grownCap] <;>
  (congr 2; apply Array.ext'; simp)
theorem viewA_ok {g:Gh} {s:St} {tm:Array Value} {tms:List (Array Value)} {w:World} (hs:StR g s tm tms w) {e:Nat} {v:AV} {T:Ty} {l:List T.den} (h:viewA C s.bxs e v = some ⟨T,l⟩) {x:Value} (hx:VR g v x) :
  ∃ news,Gives P w T.size x l.length news∧Elems (CR g.fz T) l news:=by
 unfold viewA at h
 split at h
 ·rename_i b off m lo n
  split at h
  ·rename_i gs hb
   split at h
   ·rename_i k T' l' gs' hd
    split at h
    ·rename_i hk
     have hT1:=hk.2
     simp only [Option.some.injEq,Sigma.mk.injEq] at h
     obtain ⟨rfl,h⟩:=h
     obtain rfl:=eq_of_heq h
     have hx':GR g (.vsl b off m lo n) [x]:=hx
     obtain ⟨gb,blk,cap,e1,e2,e3,e4,e5,a,e6,e7,e8⟩:=hx'
     simp only [List.cons.injEq,and_true] at e6
     subst e6
     obtain ⟨gb',k1,k2⟩:=hs.bxs.box _ _ hb
     rw [e1] at k1
     cases k1
     obtain ⟨_,_,blk',cells,k3,k4,k5,_⟩:=k2
     rw [e3] at k3
     cases k3
     obtain ⟨_,h2⟩:=dropGs_rel hd k5
     obtain ⟨c1,c2,h3,h4,_⟩:=h2
     have h4':CR g.fz (.arr k T') l' c1:=h4
     have hll:=h4'.1
     have hT:∀ (x:T'.den) (cs:List Value),CR g.fz T' x cs→cs.length = T'.size:=fun x cs h=>h.length
     have hcl:=h4'.2.length hT
     have hs1:=h4'.2.split hT lo (by omega)
     have hs2:=hs1.2.split hT n (by rw [List.length_drop]; omega)
     have hlen:((l'.drop lo).take n).length = n:=by rw [List.length_take,List.length_drop]; omega
     refine ⟨_,?_,hs2.1⟩
     rw [hlen]
     have hcells:CellsAt w blk (off + lo) ((c1.drop (lo * T'.size)).take (n * T'.size)):=by
      have h5:=k4.cellsAt off
      rw [h3] at h5
      have h6:=(h5.left.drop (lo * T'.size)).take (n * T'.size)
      simpa [hT1] using h6
     have hl2:((c1.drop (lo * T'.size)).take (n * T'.size)).length = n * T'.size:=by
      rw [List.length_take,List.length_drop,hcl,hT1]
      omega
     rcases e8 with h0 | h0
     ·have hn0:n = 0:=by omega
      subst hn0
      obtain ⟨ab,ao,as⟩:=a
      simp only at e7
      subst e7
      rw [Nat.zero_mul,List.take_zero]
      exact gives_slice (fun j v e=>by simp at e) (by simp)
     ·rw [h0]
      exact gives_slice hcells hl2
    ·cases h
   ·cases h
  ·cases h
 ·obtain ⟨a,cap,rfl,h2,h3⟩:=viewT_ok hs h hx
  rcases h3 with ⟨rfl,rfl⟩ | ⟨blk,off,cs,rfl,h4,h5,_⟩
  ·exact ⟨[],gives_none _,rfl⟩
  ·exact ⟨cs,gives_slice h5 (h4.length (fun x cs h=>h.length)),h4⟩
theorem elems_ints {fz:Nat→Nat→Option Value} (k:IntKind):∀ l:List Int,Elems (CR fz (.int k)) l (l.map (Value.int k))
 | []=>rfl
 | x :: l=>⟨[.int k x],l.map (Value.int k),rfl,rfl,elems_ints k l⟩
theorem moreV_ok {g:Gh} {s:St} {tm:Array Value} {tms:List (Array Value)} {w:World} (hs:StR g s tm tms w) {e:Nat} {y:AV} {T:Ty} {l:List T.den} (h:moreV C s.bxs e y = some ⟨T,l⟩) {b:Value} (hy:VR g y b) :
  ∃ news,Gives P w T.size b l.length news∧Elems (CR g.fz T) l news:=by
 unfold moreV at h
 split at h
 ·rename_i s'
  simp only [Option.some.injEq,Sigma.mk.injEq] at h
  obtain ⟨rfl,h⟩:=h
  obtain rfl:=eq_of_heq h
  have hy':[b] = [Value.string s']:=hy
  simp only [List.cons.injEq,and_true] at hy'
  subst hy'
  refine ⟨_,?_,elems_ints .u8 (toBytes s')⟩
  rw [toBytes_length]
  exact gives_str s'
 ·exact viewA_ok hs h hy
def fzPut (fz:Nat→Nat→Option Value) (blk from_:Nat) (cs:List Value):Nat→Nat→Option Value :=
 fun b o=>if b = blk∧from_≤o∧o < from_ + cs.length then cs[o - from_]? else fz b o
theorem fzPut_new {fz:Nat→Nat→Option Value} {blk from_:Nat} {cs:List Value}:Fz (fzPut fz blk from_ cs) blk from_ cs:=fun j v e=>by
 have hlt:=(List.getElem?_eq_some_iff.1 e).1
 unfold fzPut
 rw [if_pos ⟨rfl,by omega,by omega⟩,Nat.add_sub_cancel_left]
 exact e
theorem fzPut_old {fz:Nat→Nat→Option Value} {blk from_:Nat} {cs:List Value} (hn:∀ o,from_≤o→o < from_ + cs.length→fz blk o = none) {b o:Nat} {v:Value} (h:fz b o = some v):fzPut fz blk from_ cs b o = some v:=by
 unfold fzPut
 split
 ·rename_i hc
  obtain ⟨rfl,h1,h2⟩:=hc
  rw [hn o h1 h2] at h
  cases h
 ·exact h
theorem fzPut_some {fz:Nat→Nat→Option Value} {blk from_:Nat} {cs:List Value} {b o:Nat} (h:fzPut fz blk from_ cs b o ≠ none):fz b o ≠ none ∨ b = blk:=by
 unfold fzPut at h
 split at h
 ·rename_i hc; exact .inr hc.1
 ·exact .inl h
theorem fzPut_none {fz:Nat→Nat→Option Value} {blk from_:Nat} {cs:List Value} {o:Nat} (h:fz blk o = none) (ho:from_ + cs.length≤o):fzPut fz blk from_ cs blk o = none:=by
 unfold fzPut
 rw [if_neg (by omega)]
 exact h
theorem blkIs_new {w:World} (cs:List Value) (e:TypeId):BlkIs (w.drew.alloc (.cells cs.toArray e)) w.heap.size cs:=blkIs_alloc w.drew cs e
structure AppT (C:Cfg) (P:Program) (t yt e:Nat) (S:Ty):Prop where
 out:∃ (i:TypeInfo) (z:Value) (d:TypeDesc),P.underlying t = some (.slice e)∧P.underlying yt = some d∧slStr d∧P.info? e = some i∧i.size = S.size∧i.bytes≤65536∧i.zero = some z∧z.cells.size = S.size∧S.size ≠ 0
theorem appT {t yt e:Nat} {S:Ty} (hC:CfgOK C P) (hu:C.under t = .sl e) (h1:C.ty e = some S) (h2:C.size e ≠ 0) (h3:slOrStr (C.under yt) = true):AppT C P t yt e S:=by
 obtain ⟨h4,i,z,h5,h6,h7,h8,h9,h10⟩:=hC.ty _ _ h1
 have hd:∃ d,P.underlying yt = some d∧slStr d:=by
  cases hy:C.under yt <;> rw [hy] at h3 <;> simp only [slOrStr,Bool.false_eq_true] at h3
  ·exact ⟨_,hC.str _ hy,.inl rfl⟩
  ·exact ⟨_,hC.sl _ _ hy,.inr ⟨_,rfl⟩⟩
 obtain ⟨d,hd1,hd2⟩:=hd
 have:=(h10 (fun _ _=>none)).length
 exact ⟨i,z,d,hC.sl _ _ hu,hd1,hd2,h5,by rw [h6,h4],h8,h9,by rw [← this]; simp,by rw [h4]; exact h2⟩
theorem grown_len (w:World) (need old:Nat) (e:TypeId) (z:Value) (n:Nat) (hz:z.cells.size = n):(Builtin.zeroCells z.cells (grownCap w need old e - need)).toList.length = (grownCap w need old e - need) * n:=by
 rw [Array.length_toList,size_zeroCells,hz]
theorem fit_ok {n k c b:Nat} (h:c < n + k) (hl:n + k≤appLim) (hb:b≤65536):Builtin.nextslicecap (n + k) c * b≤281474976710656:=by
 refine growslice_fits h ?_
 have h1:(n + k) * b≤1073741824 * 65536:=Nat.mul_le_mul hl hb
 omega
theorem newRow_ok {g:Gh} {w:World} {S:Ty} {L:List S.den} {cs rest:List Value} {e:TypeId} (hL:Elems (CR g.fz S) L cs) {cap:Nat} (hc:L.length≤cap) (hr:rest.length = (cap - L.length) * S.size) (hn:∀ o,g.fz w.heap.size o = none) :
  BoxR g (.row S false L) ⟨true,true,some w.heap.size,0,L.length,cap,S.size,none⟩ (w.drew.alloc (.cells (cs++rest).toArray e)):=by
 have hlc:=hL.length (fun x cs h=>h.length)
 refine ⟨rfl,rfl,rfl,hc,cs++rest,cs,blkIs_new _ _,?_,hL,?_,fun _=>hn,fun h=>nomatch h⟩
 ·rw [List.length_append,hlc,hr,← Nat.add_mul]
  simp only
  rw [Nat.zero_add,Nat.add_sub_cancel' hc]
  exact Nat.le_refl _
 ·intro j v e
  simp only [Nat.zero_add]
  rw [List.getElem?_append_left (List.getElem?_eq_some_iff.1 e).1]
  exact e
end
end Go.V
namespace Go.V
variable [Codes]
section
theorem FzOK.noneAt {g:Gh} {w:World} (h:FzOK g w) {b:Nat} (hb:w.heap.size≤b) (o:Nat):g.fz b o = none:=by
 cases e:g.fz b o with
 | none=>rfl
 | some v=>have:=h.lt (b:=b) (o:=o) (by rw [e]; simp); omega
theorem appOut {g:Gh} {s:St} {tm:Array Value} {tms:List (Array Value)} {w:World} (hs:StR g s tm tms w) {k:Nat} {gb:Gb} (hg:g.bx k = some gb) (hr:gb.isRow = true) {S:Ty} {L:List S.den} {cs rest:List Value} {e:TypeId}
  (hL:Elems (CR g.fz S) L cs) {cap:Nat} (hc:L.length≤cap) (hrl:rest.length = (cap - L.length) * S.size) (fz:Bool) :
  ∃ g',VR g' (.row k .whole) (.slice (some ⟨w.heap.size,0,none⟩) L.length cap)∧StR g' ((Eff.app k (.row S fz L)).apply s) tm tms (w.drew.alloc (.cells (cs++rest).toArray e))∧Tr g w g' (w.drew.alloc (.cells (cs++rest).toArray e)):=by
 have hblk:BlkIs (w.drew.alloc (.cells (cs++rest).toArray e)) w.heap.size (cs++rest):=blkIs_new _ _
 have hn:=fun o=>hs.fz.noneAt (Nat.le_refl w.heap.size) o
 have hlc:=hL.length (fun x cs h=>h.length)
 let fz':=if fz = true then fzPut g.fz w.heap.size 0 cs else g.fz
 let gb':Gb:=⟨true,true,some w.heap.size,0,L.length,cap,S.size,none⟩
 have hmono:∀ b o v,g.fz b o = some v→fz' b o = some v:=by
  intro b o v e
  show (if fz = true then fzPut g.fz w.heap.size 0 cs else g.fz) b o = some v
  split
  ·exact fzPut_old (fun o _ _=>hn o) e
  ·exact e
 have hh:∀ b,b < w.heap.size→(w.drew.alloc (.cells (cs++rest).toArray e)).heap[b]? = w.heap[b]?:=fun b hb=>(grownBy_drew_alloc w _).block b hb (by simp)
 have hsome:∀ b o,fz' b o ≠ none→g.fz b o ≠ none ∨ b = w.heap.size:=by
  intro b o h
  have h':(if fz = true then fzPut g.fz w.heap.size 0 cs else g.fz) b o ≠ none:=h
  split at h'
  ·exact fzPut_some h'
  ·exact .inl h'
 have hok:FzOK ⟨fz',fun j=>if j = k then some gb' else g.bx j⟩ (w.drew.alloc (.cells (cs++rest).toArray e)):=by
  intro b o v h
  have h':(if fz = true then fzPut g.fz w.heap.size 0 cs else g.fz) b o = some v:=h
  split at h'
  ·unfold fzPut at h'
   split at h'
   ·rename_i hc
    obtain ⟨rfl,_,h3⟩:=hc
    rw [hblk.cell,List.getElem?_append_left (by omega)]
    simpa using h'
   ·exact hs.fz.grow hh b o v h'
  ·exact hs.fz.grow hh b o v h'
 have hbox:BoxR ⟨fz',fun j=>if j = k then some gb' else g.bx j⟩ (.row S fz L) gb' (w.drew.alloc (.cells (cs++rest).toArray e)):=by
  refine ⟨rfl,rfl,rfl,hc,cs++rest,cs,hblk,?_,hL.mono (fun x cs h=>h.mono hmono),?_,?_,?_⟩
  ·rw [List.length_append,hlc,hrl,← Nat.add_mul]
   show 0 + cap * S.size≤_
   rw [Nat.zero_add,Nat.add_sub_cancel' hc]
   exact Nat.le_refl _
  ·intro j v e
   show (cs++rest)[0 + j]? = some v
   rw [Nat.zero_add,List.getElem?_append_left (List.getElem?_eq_some_iff.1 e).1]
   exact e
  ·intro hf o
   show (if fz = true then fzPut g.fz w.heap.size 0 cs else g.fz) w.heap.size o = none
   rw [if_neg (by rw [hf]; decide)]
   exact hn o
  ·intro hf
   refine ⟨?_,?_⟩
   ·show Fz (if fz = true then fzPut g.fz w.heap.size 0 cs else g.fz) w.heap.size 0 cs
    rw [if_pos hf]
    exact fzPut_new
   ·intro o ho
    show (if fz = true then fzPut g.fz w.heap.size 0 cs else g.fz) w.heap.size o = none
    rw [if_pos hf]
    exact fzPut_none (hn o) ho
 obtain ⟨h1,h2,_⟩:=hs.app hg hr fz' gb' hmono (fun b o h=>by
   rcases hsome b o h with h | h
   ·exact .inl h
   ·exact .inr (.inl (by omega))) hok rfl rfl rfl (by simp) (fun b _ hb=>hh b hb) (fun blk e1 _=>.inl (by cases e1; exact Nat.le_refl _)) (.row S fz L) hbox
 exact ⟨_,⟨gb',_,if_pos rfl,rfl,rfl,rfl⟩,h1,h2⟩
theorem appSame {g:Gh} {s:St} {tm:Array Value} {tms:List (Array Value)} {w:World} (hs:StR g s tm tms w) {k:Nat} {gb:Gb} (hg:g.bx k = some gb) (hr:gb.isRow = true) {S:Ty} {L:List S.den} {fz:Bool} {gb':Gb} {v:Value}
  (hb:BoxR g (.row S fz L) gb' w) (ho:∀ blk,gb'.blk = some blk→gb'.own = true→gb.blk = some blk∧gb.own = true) (hv:WinR gb' .whole v) :
  ∃ g',VR g' (.row k .whole) v∧StR g' ((Eff.app k (.row S fz L)).apply s) tm tms w∧Tr g w g' w:=by
 obtain ⟨h1,h2,_⟩:=hs.app hg hr g.fz gb' (fun _ _ _ h=>h) (fun _ _ h=>.inl h) (fun b o v h=>hs.fz b o v h) rfl rfl rfl (Nat.le_refl _) (fun _ _ _=>rfl) (fun blk e1 e2=>.inr (ho blk e1 e2)) (.row S fz L)
  (by
   obtain ⟨h1,h2,h3,h4,h5⟩:=hb
   exact ⟨h1,h2,h3,h4,h5⟩)
 exact ⟨_,⟨gb',v,if_pos rfl,hb.1,rfl,hv⟩,h1,h2⟩
theorem appIn {g : Gh} {s : St} {tm : Array Value} {tms : List (Array Value)} {w w' : World} (hs : StR g s tm tms w) {k : Nat} {gb : Gb} (hg : g.bx k = some gb) (hr : gb.isRow = true) {blk : Nat} (hblk : gb.blk = some blk) (hown : gb.own = true)
    {S : Ty} {L m : List S.den} {olds news cells : List Value} {so cap : Nat} {fz : Bool} (hb : BlkIs w blk cells) (ho : Elems (CR g.fz S) L olds) (hn : Elems (CR g.fz S) m news) (hcells : ∀ j v, olds[j]? = some v → cells[so + j]? = some v)
    (hcap : L.length + m.length ≤ cap) (hfit : so + cap * S.size ≤ cells.length) (hw : StW w w' blk) (hb' : BlkIs w' blk (cells.take (so + olds.length) ++ news ++ cells.drop (so + olds.length + news.length)))
    (hff : fz = false → ∀ o, g.fz blk o = none) (hft : fz = true → Fz g.fz blk so olds ∧ ∀ o, so + olds.length ≤ o → g.fz blk o = none) :
    ∃ g', VR g' (.row k .whole) (.slice (some ⟨blk, so, none⟩) (L.length + m.length) cap) ∧ StR g' ((Eff.app k (.row S fz (L ++ m))).apply s) tm tms w' ∧ Tr g w g' w' := by
  have hT : ∀ (x : S.den) (cs : List Value), CR g.fz S x cs → cs.length = S.size := fun x cs h => h.length
  have hol := ho.length hT
  have hnl := hn.length hT
  have hle : so + olds.length + news.length ≤ cells.length := by
    have h1 := Nat.mul_le_mul_right S.size hcap
    rw [Nat.add_mul] at h1
    omega
  let fz' := if fz = true then fzPut g.fz blk (so + olds.length) news else g.fz
  let gb' : Gb := ⟨true, true, some blk, so, (L ++ m).length, cap, S.size, none⟩
  have hmono : ∀ b o v, g.fz b o = some v → fz' b o = some v := by
    intro b o v e
    show (if fz = true then fzPut g.fz blk (so + olds.length) news else g.fz) b o = some v
    split
    · rename_i hf
      exact fzPut_old (fun o h1 _ => (hft hf).2 o h1) e
    · exact e
  have hsome : ∀ b o, fz' b o ≠ none → g.fz b o ≠ none ∨ b = blk := by
    intro b o h
    have h' : (if fz = true then fzPut g.fz blk (so + olds.length) news else g.fz) b o ≠ none := h
    split at h'
    · exact fzPut_some h'
    · exact .inl h'
  have hcell : ∀ o, o < so + olds.length ∨ so + olds.length + news.length ≤ o → w'.cell? ⟨blk, o, none⟩ = w.cell? ⟨blk, o, none⟩ := by
    intro o h
    rw [hb'.cell, hb.cell, splice_get _ _ _ _ hle]
    rcases h with h | h
    · rw [if_pos h]
    · rw [if_neg (by omega), if_neg (by omega)]
  have hold : ∀ b o v, g.fz b o = some v → w'.cell? ⟨b, o, none⟩ = some v := by
    intro b o v e
    by_cases hbb : b = blk
    · subst hbb
      have h1 : fz = true := by
        cases hf : fz
        · rw [hff hf o] at e; cases e
        · rfl
      have h2 : o < so + olds.length := by
        by_cases h3 : o < so + olds.length
        · exact h3
        · rw [(hft h1).2 o (by omega)] at e; cases e
      rw [hcell o (.inl h2)]
      exact hs.fz _ _ _ e
    · rw [← hs.fz b o v e]
      exact World.cell?_of_block (hw.other b hbb)
  have hok : FzOK ⟨fz', fun j => if j = k then some gb' else g.bx j⟩ w' := by
    intro b o v h
    have h' : (if fz = true then fzPut g.fz blk (so + olds.length) news else g.fz) b o = some v := h
    split at h'
    · unfold fzPut at h'
      split at h'
      · rename_i hc
        obtain ⟨rfl, h2, h3⟩ := hc
        rw [hb'.cell, splice_get _ _ _ _ hle, if_neg (by omega), if_pos h3]
        exact h'
      · exact hold b o v h'
    · exact hold b o v h'
  have hbox : BoxR ⟨fz', fun j => if j = k then some gb' else g.bx j⟩ (.row S fz (L ++ m)) gb' w' := by
    refine ⟨rfl, rfl, rfl, by simp only [List.length_append, gb']; exact hcap, _, olds ++ news, hb', ?_, (ho.append hn).mono (fun x cs h => h.mono hmono), ?_, ?_, ?_⟩
    · simp only [List.length_append, List.length_take, List.length_drop]
      show so + cap * S.size ≤ _
      omega
    · intro j v e
      show (cells.take (so + olds.length) ++ news ++ cells.drop (so + olds.length + news.length))[so + j]? = some v
      rw [splice_get _ _ _ _ hle]
      by_cases hj : j < olds.length
      · rw [List.getElem?_append_left hj] at e
        rw [if_pos (by omega)]
        exact hcells j v e
      · rw [List.getElem?_append_right (by omega)] at e
        have := (List.getElem?_eq_some_iff.1 e).1
        rw [if_neg (by omega), if_pos (by omega), show so + j - (so + olds.length) = j - olds.length by omega]
        exact e
    · intro hf o
      show (if fz = true then fzPut g.fz blk (so + olds.length) news else g.fz) blk o = none
      rw [if_neg (by rw [hf]; decide)]
      exact hff hf o
    · intro hf
      refine ⟨?_, ?_⟩
      · show Fz (if fz = true then fzPut g.fz blk (so + olds.length) news else g.fz) blk so (olds ++ news)
        rw [if_pos hf]
        intro j v e
        by_cases hj : j < olds.length
        · rw [List.getElem?_append_left hj] at e
          exact fzPut_old (fun o h1 _ => (hft hf).2 o h1) ((hft hf).1 j v e)
        · rw [List.getElem?_append_right (by omega)] at e
          have := fzPut_new (fz := g.fz) (blk := blk) (from_ := so + olds.length) (cs := news) (j - olds.length) v e
          rwa [show so + olds.length + (j - olds.length) = so + j by omega] at this
      · intro o h
        show (if fz = true then fzPut g.fz blk (so + olds.length) news else g.fz) blk o = none
        rw [if_pos hf]
        have h2 : so + (olds ++ news).length ≤ o := h
        rw [List.length_append] at h2
        exact fzPut_none ((hft hf).2 o (by omega)) (by omega)
  obtain ⟨h1, h2, _⟩ := hs.app hg hr fz' gb' hmono (fun b o h => by
      rcases hsome b o h with h | h
      · exact .inl h
      · exact .inr (.inr (by rw [h]; exact ⟨hblk, hown⟩))) hok hw.os hw.tape hw.output (by rw [hw.size]; exact Nat.le_refl _) (fun b h1 _ => hw.other b (fun e => h1 (by rw [e]; exact ⟨hblk, hown⟩)))
      (fun blk' e1 _ => .inr (by cases e1; exact ⟨hblk, hown⟩)) (.row S fz (L ++ m)) hbox
  exact ⟨_, ⟨gb', _, if_pos rfl, rfl, rfl, by simp only [WinR, gb', List.length_append]⟩, h1, h2⟩
end
end Go.V
namespace Go.V
variable [Codes]
section
variable {C:Cfg} {P:Program}
theorem boxR_fzSame {g g':Gh} (h:g'.fz = g.fz) {T:Ty} {fz:Bool} {l:List T.den} {gb:Gb} {w:World} (hb:BoxR g (.row T fz l) gb w):BoxR g' (.row T fz l) gb w:=by
 obtain ⟨h1,h2,h3,h4,h5⟩:=hb
 refine ⟨h1,h2,h3,h4,?_⟩
 rw [h]
 exact h5
theorem fresh_ok {g:Gh} {s:St} {tm:Array Value} {tms:List (Array Value)} {w:World} (hs:StR g s tm tms w) {key:Nat} (hk:find s.bxs key = none) {S:Ty} {L:List S.den} {cs rest:List Value} {e:TypeId}
  (hL:Elems (CR g.fz S) L cs) {cap:Nat} (hc:L.length≤cap) (hr:rest.length = (cap - L.length) * S.size) :
  let gb:Gb:=⟨true,true,some w.heap.size,0,L.length,cap,S.size,none⟩
  let w':=w.drew.alloc (.cells (cs++rest).toArray e)
  VR (g.put key gb) (.row key .whole) (.slice (some ⟨w.heap.size,0,none⟩) L.length cap)∧StR (g.put key gb) ((Eff.add key (.row S false L)).apply s) tm tms w'∧Tr g w (g.put key gb) w':=by
 intro gb w'
 have hb:=boxR_fzSame (g':=g.put key gb) rfl (newRow_ok (w:=w) (e:=e) hL hc hr (fun o=>hs.fz.noneAt (Nat.le_refl _) o))
 obtain ⟨h1,h2,_⟩:=hs.add hk (grownBy_drew_alloc w _) (.row S false L) gb hb (fun blk e1 _=>by cases e1; exact Nat.le_refl _)
 exact ⟨⟨gb,_,Gh.put_same _ _ _,rfl,rfl,rfl⟩,h1,h2⟩
theorem StR.frzB {g:Gh} {s:St} {tm:Array Value} {tms:List (Array Value)} {w:World} (h:StR g s tm tms w) (b:Nat) :
  ∃ fz',StR ⟨fz',g.bx⟩ { s with bxs:=frzB s.bxs b } tm tms w∧Tr g w ⟨fz',g.bx⟩ w:=by
 unfold V.frzB
 split
 case h_2=>exact ⟨g.fz,h,Tr.refl g w⟩
 rename_i T l hf
 obtain ⟨gb,hgb,k1,k2,k3,k4,k5⟩:=h.bxs.box b _ hf
 have fin:∀ fz':Nat→Nat→Option Value,(∀ b o v,g.fz b o = some v→fz' b o = some v)→(∀ x o,fz' x o ≠ none→g.fz x o ≠ none ∨ (gb.blk = some x∧gb.own = true))→FzOK ⟨fz',g.bx⟩ w →
   BoxR ⟨fz',g.bx⟩ (.row T true l) gb w→∃ fz',StR ⟨fz',g.bx⟩ { s with bxs:=setB s.bxs b (.row T true l) } tm tms w∧Tr g w ⟨fz',g.bx⟩ w:=by
  intro fz' hfz hnew hok hbox
  have hx:ExtBut none g ⟨fz',g.bx⟩:=⟨hfz,fun _ _ _ h=>h,fun _ _ h _=>nomatch h⟩
  refine ⟨fz',⟨h.env.grow hx,h.stk.grow hx,⟨?_,?_,h.bxs.sep⟩,hok⟩,⟨rfl,rfl,rfl,Nat.le_refl _,hfz,?_,fun b h=>.inl h,fun _ _ _=>rfl⟩⟩
  ·intro j c e
   by_cases hj:b = j
   ·subst hj
    simp only [find_setB_same,Option.some.injEq] at e
    subst e
    exact ⟨gb,hgb,hbox⟩
   ·simp only [find_setB_other _ _ hj] at e
    obtain ⟨a,e1,e2⟩:=h.bxs.box j c e
    refine ⟨a,e1,e2.ext hx (fun _ _ _=>rfl) (fun blk k1 k2 o k3=>?_) ?_⟩
    ·cases hz:fz' blk o with
     | none=>exact hz
     | some v =>
      rcases hnew blk o (by rw [hz]; simp) with h1 | h1
      ·exact absurd k3 h1
      ·exact (h.bxs.sep b j gb a blk hj hgb e1 h1.1 h1.2 k1 k2).elim
    ·exact boxClear_none _
  ·intro j a e
   by_cases hj:b = j
   ·subst hj; simp only [find_setB_same]; rfl
   ·simp only [find_setB_other _ _ hj]; exact h.bxs.dom j a e
  ·intro x o e
   rcases hnew x o e with h1 | h1
   ·exact .inl h1
   ·exact .inr (.inr ⟨b,gb,hgb,h1.1,h1.2⟩)
 cases hb:gb.blk with
 | none =>
  refine fin g.fz (fun _ _ _ h=>h) (fun _ _ h=>.inl h) h.fz ⟨k1,k2,k3,k4,?_⟩
  simp only [hb] at k5 ⊢
  exact k5
 | some blk =>
  cases ho:gb.own with
  | false =>
   refine fin g.fz (fun _ _ _ h=>h) (fun _ _ h=>.inl h) h.fz ⟨k1,k2,k3,k4,?_⟩
   simp only [hb,ho] at k5 ⊢
   exact ⟨.inl trivial,k5.2⟩
  | true =>
   simp only [hb,ho] at k5
   obtain ⟨cells,cs,c1,c2,c3,c4,c5,_⟩:=k5
   have hno:=c5 trivial
   have hold:∀ b o v,g.fz b o = some v→fzPut g.fz blk gb.off cs b o = some v:=fun b o v e=>fzPut_old (fun o _ _=>hno o) e
   refine fin (fzPut g.fz blk gb.off cs) hold (fun x o e=>?_) ?_ ⟨k1,k2,k3,k4,?_⟩
   ·rcases fzPut_some e with h1 | h1
    ·exact .inl h1
    ·exact .inr ⟨by rw [hb,h1],ho⟩
   ·intro x o v e
    show w.cell? ⟨x,o,none⟩ = some v
    have e':fzPut g.fz blk gb.off cs x o = some v:=e
    unfold fzPut at e'
    split at e'
    ·rename_i hc
     obtain ⟨rfl,h1,h2⟩:=hc
     rw [c1.cell]
     have:=c4 _ _ e'
     rwa [show gb.off + (o - gb.off) = o by omega] at this
    ·exact h.fz x o v e'
   ·simp only [hb,ho]
    refine ⟨cells,cs,c1,c2,c3.mono (fun x cs h=>h.mono hold),c4,(fun e=>nomatch e),(fun _=>⟨fzPut_new,fun o h=>fzPut_none (hno o) h⟩)⟩
theorem fresh_fz {g:Gh} {s:St} {tm:Array Value} {tms:List (Array Value)} {w:World} {key:Nat} {S:Ty} {L:List S.den} {v:Value} {g0:Gh} {w':World}
  (h:VR g0 (.row key .whole) v∧StR g0 ((Eff.add key (.row S false L)).apply s) tm tms w'∧Tr g w g0 w') :
  ∃ g',VR g' (.row key .whole) v∧StR g' ((Eff.add key (.row S true L)).apply s) tm tms w'∧Tr g w g' w':=by
 obtain ⟨h1,h2,h3⟩:=h
 obtain ⟨fz',h4,h5⟩:=h2.frzB key
 refine ⟨⟨fz',g0.bx⟩,h1,?_,h3.trans h5⟩
 have e:V.frzB ((Eff.add key (.row S false L)).apply s).bxs key = ((Eff.add key (.row S true L)).apply s).bxs:=by
  simp only [Eff.apply,V.frzB,find_cons_same,setB,Nat.beq_refl,cond_true]
 rw [e] at h4
 exact h4
theorem rowWin_ok {g:Gh} {w:World} {S:Ty} {fz:Bool} {l:List S.den} {gb:Gb} (k2:BoxR g (.row S fz l) gb w) {wn:Win} {a0:Option Addr} {c:Nat} (hw:WinR gb wn (.slice a0 (wn.app l).length c)) (_hf:FzOK g w)
  (hbf:(!fz || wn.isWhole) = true) (hnc:(wn.app l).length≤c) :
  ∃ gb',BoxR g (.row S fz (wn.app l)) gb' w∧(∀ blk,gb'.blk = some blk→gb'.own = true→gb.blk = some blk∧gb.own = true)∧WinR gb' .whole (.slice a0 (wn.app l).length c):=by
 cases wn with
 | whole=>exact ⟨gb,k2,fun _ h1 h2=>⟨h1,h2⟩,hw⟩
 | part off n full =>
  have hfz:fz = false ∨ full = true:=by
   cases fz with
   | false=>exact .inl rfl
   | true=>exact .inr (by simpa [Win.isWhole] using hbf)
  obtain ⟨h1,h2,h3,h4,h5⟩:=k2
  cases hblk:gb.blk with
  | none =>
   simp only [WinR,hblk] at hw
   obtain ⟨rfl,rfl,h0,hv⟩:=hw
   simp only [hblk] at h5
   obtain ⟨rfl,ho,hc⟩:=h5
   refine ⟨gb,⟨h1,h2,by simpa [Win.app] using h3,h4,?_⟩,(fun _ h1 _=>by rw [hblk] at h1; cases h1),?_⟩
   ·simp only [hblk]
    exact ⟨by simp [Win.app],ho,hc⟩
   ·simp only [WinR,hblk]
    exact ⟨hv,h0⟩
  | some blk =>
   simp only [WinR,hblk] at hw
   obtain ⟨w1,a,c',hv,wsp,w2,w3,w4,w5⟩:=hw
   have hlw:(Win.app (.part off n full) l).length = n:=by simp only [Win.app,List.length_take,List.length_drop]; omega
   simp only [Value.slice.injEq] at hv
   obtain ⟨rfl,hn,rfl⟩:=hv
   by_cases hc0:c = 0
   ·have hnil:Win.app (.part off n full) l = []:=List.eq_nil_of_length_eq_zero (by omega)
    rw [hnil]
    obtain ⟨ab,ao,as⟩:=a
    simp only at wsp
    subst wsp
    exact ⟨⟨true,false,some ab,ao,0,0,S.size,none⟩,⟨rfl,rfl,rfl,Nat.le_refl _,.inr rfl,rfl,[],rfl,fun j v e=>by simp at e⟩,(fun _ _ h=>nomatch h),by simp [WinR,hc0]⟩
   ·have ha:a = ⟨blk,gb.off + off * gb.sz,none⟩:=by
     rcases w5 with h0 | h0
     ·exact (hc0 h0).elim
     ·exact h0
    have hT:∀ (x:S.den) (cs:List Value),CR g.fz S x cs→cs.length = S.size:=fun x cs h=>h.length
    cases fz with
    | true =>
     have hfull:full = true:=by
      rcases hfz with h | h
      ·cases h
      ·exact h
     have hcn:=w3 hfull
     have hfzc:∃ cs,Elems (CR g.fz S) l cs∧Fz g.fz blk gb.off cs:=by
      cases ho:gb.own with
      | false=>simp only [hblk,ho] at h5; obtain ⟨_,_,cs,q1,q2⟩:=h5; exact ⟨cs,q1,q2⟩
      | true=>simp only [hblk,ho] at h5; obtain ⟨_,cs,_,_,q1,_,_,q2⟩:=h5; exact ⟨cs,q1,(q2 trivial).1⟩
     obtain ⟨cs,q1,q2⟩:=hfzc
     have hs1:=q1.split hT off (by omega)
     have hs2:=hs1.2.split hT n (by rw [List.length_drop]; omega)
     refine ⟨⟨true,false,some blk,gb.off + off * gb.sz,(Win.app (.part off n full) l).length,c,S.size,none⟩,⟨rfl,rfl,rfl,hnc,.inl rfl,by show c = (Win.app (.part off n full) l).length; omega,_,hs2.1,?_⟩,(fun _ _ h=>nomatch h),by simp only [WinR,ha]⟩
     intro j v e
     rw [List.getElem?_take] at e
     split at e
     ·rw [List.getElem?_drop] at e
      have:=q2 _ v e
      simp only [h2]
      rwa [← Nat.add_assoc] at this
     ·cases e
    | false =>
    refine ⟨⟨true,gb.own,some blk,gb.off + off * gb.sz,(Win.app (.part off n full) l).length,c,S.size,none⟩,⟨rfl,rfl,rfl,hnc,?_⟩,(fun b e1 e2=>⟨by cases e1; rfl,e2⟩),by simp only [WinR,ha]⟩
    cases ho:gb.own with
    | false =>
     simp only [hblk,ho] at h5
     obtain ⟨q1,q2,_⟩:=h5
     rcases q1 with q1 | q1
     ·exact absurd q1 (by decide)
     ·subst q1
      simp only [List.length_nil] at h3
      omega
    | true =>
     simp only [hblk,ho] at h5
     obtain ⟨cells,cs,q1,q2,q3,q4,q5,q6⟩:=h5
     have hs1:=q3.split hT off (by omega)
     have hs2:=hs1.2.split hT n (by rw [List.length_drop]; omega)
     refine ⟨cells,_,q1,?_,hs2.1,?_,(fun _=>by first | exact q5 trivial | exact q5 rfl),(fun h=>nomatch h)⟩
     ·simp only [h2]
      have:=Nat.mul_le_mul_right S.size w4
      rw [Nat.add_mul] at this
      omega
     ·intro j v e
      rw [List.getElem?_take] at e
      split at e
      ·rw [List.getElem?_drop] at e
       have:=q4 _ v e
       simp only [h2]
       rwa [← Nat.add_assoc] at this
      ·cases e
theorem rowRoom_ok {g:Gh} {w:World} {S:Ty} {fz:Bool} {l:List S.den} {gb:Gb} (k2:BoxR g (.row S fz l) gb w) {wn:Win} {a0:Option Addr} {c:Nat} (hw:WinR gb wn (.slice a0 (wn.app l).length c))
  (hbf:(!fz || wn.isWhole) = true) (hlt:(wn.app l).length < c) :
  ∃ blk so cells,gb.blk = some blk∧gb.own = true∧a0 = some ⟨blk,so,none⟩∧BlkIs w blk cells∧so + c * S.size≤cells.length∧True∧True ∧
   ∃ cs,Elems (CR g.fz S) (wn.app l) cs∧(∀ j v,cs[j]? = some v→cells[so + j]? = some v)∧(fz = false→∀ o,g.fz blk o = none)∧(fz = true→Fz g.fz blk so cs∧∀ o,so + cs.length≤o→g.fz blk o = none):=by
 obtain ⟨h1,h2,h3,h4,h5⟩:=k2
 cases hblk:gb.blk with
 | none =>
  exfalso
  cases wn with
  | whole=>simp only [WinR,hblk] at hw; simp only [Value.slice.injEq] at hw; omega
  | part off n full=>simp only [WinR,hblk] at hw; simp only [Value.slice.injEq] at hw; omega
 | some blk =>
  cases ho:gb.own with
  | false =>
   exfalso
   simp only [hblk,ho] at h5
   obtain ⟨q1,q2,_⟩:=h5
   cases wn with
   | whole =>
    simp only [WinR,hblk,Value.slice.injEq,Win.app] at hw hlt
    omega
   | part off n full =>
    rcases q1 with q1 | q1
    ·subst q1
     have hfull:full = true:=by simpa [Win.isWhole] using hbf
     simp only [WinR,hblk] at hw
     obtain ⟨w1,a,c',hv,_,w2,w3,w4,_⟩:=hw
     simp only [Value.slice.injEq] at hv
     have:=w3 hfull
     omega
    ·subst q1
     simp only [List.length_nil] at h3
     simp only [WinR,hblk] at hw
     obtain ⟨w1,a,c',hv,_,w2,_,w4,_⟩:=hw
     simp only [Value.slice.injEq] at hv
     omega
  | true =>
   simp only [hblk,ho] at h5
   obtain ⟨cells,cs,q1,q2,q3,q4,q5,q6⟩:=h5
   cases wn with
   | whole =>
    simp only [WinR,hblk,Value.slice.injEq] at hw
    obtain ⟨rfl,_,rfl⟩:=hw
    exact ⟨blk,gb.off,cells,rfl,rfl,rfl,q1,q2,trivial,trivial,cs,q3,q4,q5,q6⟩
   | part off n full =>
    simp only [WinR,hblk] at hw
    obtain ⟨w1,a,c',hv,_,w2,w3,w4,w5⟩:=hw
    simp only [Value.slice.injEq] at hv
    obtain ⟨rfl,hn,rfl⟩:=hv
    have hfz:fz = false:=by
     cases fz with
     | false=>rfl
     | true =>
      have hfull:full = true:=by simpa [Win.isWhole] using hbf
      have:=w3 hfull
      omega
    subst hfz
    have ha:a = ⟨blk,gb.off + off * gb.sz,none⟩:=by
     rcases w5 with h0 | h0
     ·omega
     ·exact h0
    have hT:∀ (x:S.den) (cs:List Value),CR g.fz S x cs→cs.length = S.size:=fun x cs h=>h.length
    have hs1:=q3.split hT off (by omega)
    have hs2:=hs1.2.split hT n (by rw [List.length_drop]; omega)
    refine ⟨blk,gb.off + off * gb.sz,cells,rfl,rfl,by rw [ha],q1,?_,trivial,trivial,_,hs2.1,?_,(fun _=>by first | exact q5 trivial | exact q5 rfl),(fun h=>nomatch h)⟩
    ·rw [h2]
     have:=Nat.mul_le_mul_right S.size w4
     rw [Nat.add_mul] at this
     omega
    ·intro j v e
     rw [List.getElem?_take] at e
     split at e
     ·rw [List.getElem?_drop] at e
      have:=q4 _ v e
      rw [h2]
      rwa [← Nat.add_assoc] at this
     ·cases e
theorem appendV_ok (hC:CfgOK C P) {g:Gh} {s:St} {tm:Array Value} {tms:List (Array Value)} {w:World} (hs:StR g s tm tms w) {key t yt ty:Nat} {x y v:AV} {eff:Eff} (h:appendV C s.bxs key t x y yt = some (true,v,eff))
  (hkey:∀ k b,eff = .add k b→find s.bxs k = none) {a b:Value} (hx:VR g x a) (hy:VR g y b) :
  ∃ z w' g',(Builtin.append_ #[t,yt] ty #[a,b]).run P w = .ok z w'∧VR g' v z∧StR g' (eff.apply s) tm tms w'∧Tr g w g' w':=by
 unfold appendV at h
 split at h
 ·rename_i e hu
  split at h
  ·cases h
  ·rename_i S m hm
   split at h
   ·rename_i hcond
    obtain ⟨hty,hnz,hyt⟩:=hcond
    obtain ⟨i,z,d,ht,hd,hsl,hi,his,hby,hz,hzs,hS0⟩:=(appT hC hu hty hnz hyt).out
    obtain ⟨news,hg,hel⟩:=moreV_ok (P:=P) hs hm hy
    rw [← his] at hg
    have hT:∀ (x:S.den) (cs:List Value),CR g.fz S x cs→cs.length = S.size:=fun x cs h=>h.length
    have hnl:news.length = m.length * i.size:=by rw [his]; exact hel.length hT
    have hone:∀ c∈news,c.oneCell' = true:=hel.all (fun x cs h=>h.one)
    have h63:∀ q:Nat,q≤appLim→((q:Nat):Int)≤9223372036854775807:=fun q hq=>by unfold appLim at hq; omega
    split at h
    ·-- nil
     simp only [Option.some.injEq,Prod.mk.injEq,decide_eq_true_eq] at h
     obtain ⟨hlim,rfl,rfl⟩:=h
     have hk:=hkey _ _ rfl
     have hx':[a] = [Value.slice none 0 0]:=hx
     simp only [List.cons.injEq,and_true] at hx'
     subst hx'
     by_cases hm0:m = []
     ·subst hm0
      have hn0:news = []:=hel
      subst hn0
      have hrun:=run_append_in (ty:=ty) (w:=w) (w':=w) ht hd hsl hi (base:=none) (n:=0) (c:=0) (k:=0) hg (by simp) (Nat.le_refl 0) rfl
      let gb:Gb:=⟨true,false,none,0,0,0,S.size,none⟩
      obtain ⟨h1,h2,_⟩:=hs.add hk (⟨rfl,rfl,rfl,Nat.le_refl _,fun _ _ _=>rfl⟩:w.grownBy w none) (.row S false []) gb ⟨rfl,rfl,rfl,Nat.le_refl _,rfl,rfl,rfl⟩ (fun blk e1 _=>by cases e1)
      exact ⟨_,w,_,hrun,⟨gb,_,Gh.put_same _ _ _,rfl,rfl,rfl,rfl⟩,h1,h2⟩
     ·have hpos:0 < 0 + m.length:=by cases m with | nil=>exact (hm0 rfl).elim | cons=>simp
      have hrun:=run_append_out (ty:=ty) (w:=w) (z:=z) ht hd hsl hi hz (base:=none) (n:=0) (c:=0) (gives_nil rfl) (by simp) hg hnl hpos (h63 _ (by omega)) (fit_ok hpos (by omega) hby)
      have hge:=grownCap_ge w (0 + m.length) 0 e
      have hr:=fresh_ok hs hk (L:=m) (cs:=news) (rest:=(Builtin.zeroCells z.cells (grownCap w (0 + m.length) 0 e - (0 + m.length))).toList) (e:=e) hel (cap:=grownCap w (0 + m.length) 0 e) (by omega) (by rw [grown_len _ _ _ _ _ _ hzs,Nat.zero_add])
      simp only [List.nil_append,Nat.zero_add] at hrun hr
      exact ⟨_,_,_,hrun,hr.1,hr.2.1,hr.2.2⟩
    ·-- an empty literal
     rename_i T
     simp only [Option.some.injEq,Prod.mk.injEq,decide_eq_true_eq] at h
     obtain ⟨hlim,rfl,rfl⟩:=h
     have hk:=hkey _ _ rfl
     have hx':GR g (.full T []) [a]:=hx
     have hnil:∃ base:Option Addr,a = .slice base 0 0:=by
      rcases hx' with ⟨_,b0,e1⟩ | ⟨blk,off,cs',e1,_,_⟩
      ·simp only [List.cons.injEq,and_true] at e1
       exact ⟨b0,e1⟩
      ·simp only [List.cons.injEq,and_true,List.length_nil] at e1
       exact ⟨_,e1⟩
     obtain ⟨base,rfl⟩:=hnil
     have main:∃ z w' g',(Builtin.append_ #[t,yt] ty #[.slice base 0 0,b]).run P w = .ok z w'∧VR g' (.row key .whole) z∧StR g' ((Eff.add key (.row S false m)).apply s) tm tms w'∧Tr g w g' w':=by
      by_cases hm0:m = []
      ·subst hm0
       have hn0:news = []:=hel
       subst hn0
       have hrun:=run_append_in (ty:=ty) (w:=w) (w':=w) ht hd hsl hi (base:=base) (n:=0) (c:=0) (k:=0) hg (by simp) (Nat.le_refl 0) (by cases base <;> simp [storeCells])
       let gb:Gb:=⟨true,false,none,0,0,0,S.size,base⟩
       obtain ⟨h1,h2,_⟩:=hs.add hk (⟨rfl,rfl,rfl,Nat.le_refl _,fun _ _ _=>rfl⟩:w.grownBy w none) (.row S false []) gb ⟨rfl,rfl,rfl,Nat.le_refl _,rfl,rfl,rfl⟩ (fun blk e1 _=>by cases e1)
       exact ⟨_,w,_,hrun,⟨gb,_,Gh.put_same _ _ _,rfl,rfl,rfl,rfl⟩,h1,h2⟩
      ·have hpos:0 < 0 + m.length:=by cases m with | nil=>exact (hm0 rfl).elim | cons=>simp
       have hgv:Gives P w i.size (.slice base 0 0) 0 []:=gives_none _
       have hrun:=run_append_out (ty:=ty) (w:=w) (z:=z) ht hd hsl hi hz (base:=base) (n:=0) (c:=0) (olds:=[]) hgv (by simp) hg hnl hpos (h63 _ (by omega)) (fit_ok hpos (by omega) hby)
       have hge:=grownCap_ge w (0 + m.length) 0 e
       have hr:=fresh_ok hs hk (L:=m) (cs:=news) (rest:=(Builtin.zeroCells z.cells (grownCap w (0 + m.length) 0 e - (0 + m.length))).toList) (e:=e) hel (cap:=grownCap w (0 + m.length) 0 e) (by omega) (by rw [grown_len _ _ _ _ _ _ hzs,Nat.zero_add])
       simp only [List.nil_append,Nat.zero_add] at hrun hr
       exact ⟨_,_,_,hrun,hr.1,hr.2.1,hr.2.2⟩
     obtain ⟨z,w',g',m1,m2,m3,m4⟩:=main
     cases C.frz.any (Nat.beq t) with
     | false=>exact ⟨z,w',g',m1,m2,m3,m4⟩
     | true =>
      obtain ⟨g2,k1,k2,k3⟩:=fresh_fz ⟨m2,m3,m4⟩
      exact ⟨z,w',g2,m1,k1,k2,k3⟩
    ·-- a literal
     rename_i T l hne
     split at h
     ·rename_i hST
      subst hST
      simp only [Option.some.injEq,Prod.mk.injEq,decide_eq_true_eq] at h
      obtain ⟨hlim,rfl,rfl⟩:=h
      have hk:=hkey _ _ rfl
      have hx':GR g (.full S l) [a]:=hx
      have hform:∃ (base:Option Addr) (cs':List Value),a = .slice base l.length l.length∧Elems (CR g.fz S) l cs'∧Gives P w i.size (.slice base l.length l.length) l.length cs'∧cs'.length = l.length * i.size∧((l = []) ∨ ∃ blk off,base = some ⟨blk,off,none⟩∧Fz g.fz blk off cs'):=by
       rcases hx' with ⟨rfl,b0,e1⟩ | ⟨blk,off,cs',e1,k1,k2⟩
       ·simp only [List.cons.injEq,and_true] at e1
        exact ⟨b0,[],e1,rfl,gives_none _,by simp,.inl rfl⟩
       ·simp only [List.cons.injEq,and_true] at e1
        have hol:cs'.length = l.length * i.size:=by rw [his]; exact k1.length hT
        exact ⟨_,cs',e1,k1,gives_slice (k2.cells hs.fz) hol,hol,.inr ⟨blk,off,rfl,k2⟩⟩
      obtain ⟨base,cs',rfl,k1,hgv,hol,hbase⟩:=hform
      by_cases hm0:m = []
      ·subst hm0
       have hn0:news = []:=hel
       subst hn0
       rw [List.append_nil]
       have hrun:=run_append_in (ty:=ty) (w:=w) (w':=w) ht hd hsl hi (base:=base) (n:=l.length) (c:=l.length) (k:=0) hg (by simp) (Nat.le_refl _) (by cases base <;> simp [storeCells])
       rw [Nat.add_zero] at hrun
       rcases hbase with rfl | ⟨blk,off,rfl,k2⟩
       ·let gb:Gb:=⟨true,false,none,0,0,0,S.size,base⟩
        obtain ⟨h1,h2,_⟩:=hs.add hk (⟨rfl,rfl,rfl,Nat.le_refl _,fun _ _ _=>rfl⟩:w.grownBy w none) (.row S true []) gb ⟨rfl,rfl,rfl,Nat.le_refl _,rfl,rfl,rfl⟩ (fun blk e1 _=>by cases e1)
        exact ⟨_,w,_,hrun,⟨gb,_,Gh.put_same _ _ _,rfl,rfl,rfl,rfl⟩,h1,h2⟩
       ·let gb:Gb:=⟨true,false,some blk,off,l.length,l.length,S.size,none⟩
        obtain ⟨h1,h2,_⟩:=hs.add hk (⟨rfl,rfl,rfl,Nat.le_refl _,fun _ _ _=>rfl⟩:w.grownBy w none) (.row S true l) gb ⟨rfl,rfl,rfl,Nat.le_refl _,.inl rfl,rfl,cs',k1,k2⟩ (fun blk e1 e2=>by cases e2)
        exact ⟨_,w,_,hrun,⟨gb,_,Gh.put_same _ _ _,rfl,rfl,rfl⟩,h1,h2⟩
      ·have hpos:l.length < l.length + m.length:=by cases m with | nil=>exact (hm0 rfl).elim | cons=>simp
       have hrun:=run_append_out (ty:=ty) (w:=w) (z:=z) ht hd hsl hi hz hgv hol hg hnl hpos (h63 _ hlim) (fit_ok hpos hlim hby)
       have hge:=grownCap_ge w (l.length + m.length) l.length e
       have hr:=fresh_ok hs hk (L:=l++m) (cs:=cs'++news) (rest:=(Builtin.zeroCells z.cells (grownCap w (l.length + m.length) l.length e - (l.length + m.length))).toList) (e:=e) (k1.append hel) (cap:=grownCap w (l.length + m.length) l.length e) (by rw [List.length_append]; omega) (by rw [grown_len _ _ _ _ _ _ hzs,List.length_append])
       rw [List.length_append] at hr
       obtain ⟨g2,q1,q2,q3⟩:=fresh_fz hr
       exact ⟨_,_,g2,hrun,q1,q2,q3⟩
     ·cases h
    ·-- a row
     rename_i bk wn
     split at h
     ·rename_i T fz l hb
      split at h
      ·rename_i hST
       subst hST
       cases hbf:(!fz || wn.isWhole) with
       | false=>rw [hbf] at h; cases h
       | true =>
        rw [hbf] at h
        simp only [cond_true,Option.some.injEq,Prod.mk.injEq,decide_eq_true_eq] at h
        obtain ⟨hlim,rfl,rfl⟩:=h
        have hx':GR g (.row bk wn) [a]:=hx
        obtain ⟨gb,v0,e1,e2,e3,hw⟩:=hx'
        simp only [List.cons.injEq,and_true] at e3
        subst e3
        obtain ⟨gb',k1,k2⟩:=hs.bxs.box _ _ hb
        rw [e1] at k1
        cases k1
        have hview:viewT C s.bxs e (.row bk wn) = some ⟨S,wn.app l⟩:=by simp only [viewT,hb]
        obtain ⟨a0,c,rfl,hnc,hcont⟩:=viewT_ok hs hview hx
        have hold:∃ olds,Gives P w i.size (.slice a0 (wn.app l).length c) (wn.app l).length olds∧Elems (CR g.fz S) (wn.app l) olds:=by
         rcases hcont with ⟨hnil,_⟩ | ⟨blk,off,cs,rfl,h4,h5,_⟩
         ·rw [hnil]
          exact ⟨[],gives_none _,rfl⟩
         ·exact ⟨cs,gives_slice h5 (by rw [his]; exact h4.length hT),h4⟩
        obtain ⟨olds,hgo,heo⟩:=hold
        have hol:olds.length = (wn.app l).length * i.size:=by rw [his]; exact heo.length hT
        by_cases hroom:(wn.app l).length + m.length≤c
        ·-- there is room
         by_cases hm0:m = []
         ·subst hm0
          have hn0:news = []:=hel
          subst hn0
          have hrun:=run_append_in (ty:=ty) (w:=w) (w':=w) ht hd hsl hi hg (by simp) hroom (base:=a0) (by cases a0 <;> simp [storeCells])
          have hs':∃ gb',BoxR g (.row S fz (wn.app l)) gb' w∧(∀ blk,gb'.blk = some blk→gb'.own = true→gb.blk = some blk∧gb.own = true)∧WinR gb' .whole (.slice a0 (wn.app l).length c):=by
           exact rowWin_ok k2 hw hs.fz hbf hnc
          obtain ⟨gb',p1,p2,p3⟩:=hs'
          obtain ⟨g',q1,q2,q3⟩:=appSame hs e1 e2 p1 p2 p3
          simp only [List.length_nil,Nat.add_zero,List.append_nil] at hrun ⊢
          exact ⟨_,_,g',hrun,q1,q2,q3⟩
         ·-- in place
          have hmpos:0 < m.length:=by cases m with | nil=>exact (hm0 rfl).elim | cons=>simp
          obtain ⟨blk,so,cells,p1,p2,p3,p4,p5,p6,p7,p8⟩:=rowRoom_ok k2 hw hbf (by omega)
          obtain ⟨cs,q1,q2,q3,q4⟩:=p8
          subst p3
          have hcl:cs.length = (wn.app l).length * i.size:=by rw [his]; exact q1.length hT
          have hfit:so + (wn.app l).length * i.size + news.length≤cells.length:=by
           have h1:=Nat.mul_le_mul_right S.size hroom
           rw [Nat.add_mul] at h1
           rw [hnl,his]
           omega
          obtain ⟨w',r1,r2,r3⟩:=run_storeCells_blk (P:=P) (off:=so + (wn.app l).length * i.size) news 0 p4 (by simpa using hfit) hone
          have hrun:=run_append_in (ty:=ty) (w:=w) (w':=w') ht hd hsl hi hg hnl hroom (base:=some ⟨blk,so,none⟩) (by simpa [add_lit'] using r1)
          rw [Nat.add_zero,← hcl] at r3
          obtain ⟨g',s1,s2,s3⟩:=appIn hs e1 e2 p1 p2 p4 q1 hel q2 hroom p5 r2 r3 q3 q4
          exact ⟨_,_,g',hrun,s1,s2,s3⟩
        ·-- in new memory
         have hlt:c < (wn.app l).length + m.length:=by omega
         have hrun:=run_append_out (ty:=ty) (w:=w) (z:=z) ht hd hsl hi hz hgo hol hg hnl hlt (h63 _ hlim) (fit_ok hlt hlim hby)
         have hge:=grownCap_ge w ((wn.app l).length + m.length) c e
         obtain ⟨g',r1,r2,r3⟩:=appOut hs e1 e2 (L:=wn.app l++m) (cs:=olds++news) (rest:=(Builtin.zeroCells z.cells (grownCap w ((wn.app l).length + m.length) c e - ((wn.app l).length + m.length))).toList) (e:=e) (heo.append hel)
          (cap:=grownCap w ((wn.app l).length + m.length) c e) (by rw [List.length_append]; exact hge) (by rw [grown_len _ _ _ _ _ _ hzs,List.length_append]) fz
         rw [List.length_append] at r1
         exact ⟨_,_,g',hrun,r1,r2,r3⟩
      ·cases h
     ·cases h
    ·cases h
   ·cases h
 ·cases h
end
end Go.V
namespace Go.V
variable [Codes]
section
variable {C:Cfg} {P:Program}
theorem foldl_splice (off:Nat):∀ (vs:List Value) (k:Nat) (cs:Array Value),off + k + vs.length≤cs.size →
  ((vs.zipIdx k).foldl (fun cs (x:Value × Nat)=>cs.setIfInBounds (off + x.2) x.1) cs).toList = cs.toList.take (off + k)++vs++cs.toList.drop (off + k + vs.length)
 | [],k,cs,h=>by simp
 | v :: vs,k,cs,h=>by
  simp only [List.length_cons] at h
  simp only [List.zipIdx_cons,List.foldl_cons]
  rw [foldl_splice off vs (k + 1) _ (by rw [Array.size_setIfInBounds]; omega)]
  simp only [Array.toList_setIfInBounds]
  have e1:(cs.toList.set (off + k) v).drop (off + (k + 1) + vs.length) = cs.toList.drop (off + k + (v :: vs).length):=by
   rw [List.drop_set_of_lt (show off + k < off + (k + 1) + vs.length by omega)]
   congr 1
   simp only [List.length_cons]
   omega
  have e2:(cs.toList.set (off + k) v).take (off + (k + 1)) = cs.toList.take (off + k)++[v]:=by
   rw [show off + (k + 1) = (off + k) + 1 by omega,List.take_succ_eq_append_getElem (show off + k < (cs.toList.set (off + k) v).length by simp; omega),List.take_set_of_le (Nat.le_refl _)]
   simp
  rw [e1,e2]
  simp
theorem fill_cons {place:Nat→Option (Nat × Nat)} {cells:Array Value} {i:Nat} {v:Value} {ps:List (Nat × Value)} {off size:Nat} (hp:place i = some (off,size)) (hs:v.cells.size = size) (hl:off + size≤cells.size) :
  ∃ cells':Array Value,Instr.fill place cells ((i,v) :: ps) = Instr.fill place cells' ps∧cells'.toList = cells.toList.take off++v.cells.toList++cells.toList.drop (off + v.cells.toList.length):=by
 refine ⟨v.cells.zipIdx.foldl (fun cs (c,j)=>cs.setIfInBounds (off + j) c) cells,?_,?_⟩
 ·have h:¬ ((v.cells.size ≠ size || off + v.cells.size > cells.size) = true):=by simp; omega
  simp only [Instr.fill,hp]
  rw [if_neg h]
 ·have:=foldl_splice off v.cells.toList 0 cells (by simp; omega)
  rw [← Array.foldl_toList]
  simpa using this
theorem norm_some {bxs:Bxs} {T:Ty} {v:AV} {x:T.den} (h:norm bxs T v = some x):T.rd bxs v.gs = some (x,[])∧v.isAgg = T.isAgg:=by
 unfold norm at h
 split at h
 ·rename_i y hy
  cases hb:v.isAgg == T.isAgg
  ·simp [hb] at h
  ·simp only [hb,cond_true,Option.some.injEq] at h
   subst h
   exact ⟨hy,by simpa using hb⟩
 ·cases h
theorem norm_ok {g:Gh} {bxs:Bxs} {w:World} (hb:BxW g bxs w) (hf:FzOK g w) {T:Ty} {v:AV} {x:T.den} (h:norm bxs T v = some x) {cs:List Value} (hg:GsR g v.gs cs):CR g.fz T x cs :=
 rd_all hb hf (norm_some h).1 hg
def PartsR (g:Gh):List (Nat × AV)→List (Nat × Value)→Prop
 | [],[]=>True
 | (i,v) :: l,(j,c) :: r=>i = j∧VR g v c∧PartsR g l r
 | _,_=>False
theorem buildSt_ok {g:Gh} {place:Nat→Option (Nat × Nat)} {fs:List (Nat × Nat)} (hpl:∀ i o t,fs[i]? = some (o,t)→C.size t ≠ 0→place i = some (o,C.size t)):∀ {ps:List (Nat × AV)} {vs:List (Nat × Value)} {gs gs':List AV} {cells:Array Value},
  buildSt C fs ps gs = some gs'→PartsR g ps vs→GsR g gs cells.toList→∃ cells',Instr.fill place cells vs = some cells'∧GsR g gs' cells'.toList
 | [],[],gs,gs',cells,h,_,hg=>by
  simp only [buildSt,Option.some.injEq] at h
  subst h
  exact ⟨cells,rfl,hg⟩
 | [],_ :: _,_,_,_,_,hp,_=>hp.elim
 | _ :: _,[],_,_,_,_,hp,_=>hp.elim
 | (i,v) :: ps,(j,c) :: vs,gs,gs',cells,h,⟨hij,hv,hp⟩,hg=>by
  subst hij
  simp only [buildSt] at h
  split at h
  ·rename_i o t hf
   split at h
   ·rename_i hc
    split at h
    ·rename_i gs1 hput
     have hgs:=hv.gs hc.1
     obtain ⟨h1,h2⟩:=putGs_rel hgs hput hg
     have hsz:c.cells.size = C.size t:=by rw [← hc.2.1,← hgs.length]; simp
     obtain ⟨cells',h3,h4⟩:=fill_cons (ps:=vs) (v:=c) (cells:=cells) (hpl i o t hf hc.2.2) hsz (by rw [← hsz]; simpa using h1)
     rw [← h4] at h2
     obtain ⟨cells2,h5,h6⟩:=buildSt_ok hpl h hp h2
     exact ⟨cells2,by rw [h3]; exact h5,h6⟩
    ·cases h
   ·cases h
  ·cases h
theorem buildL_ok {g:Gh} {bxs:Bxs} {w:World} (hb:BxW g bxs w) (hf:FzOK g w) {T:Ty}:∀ {ps:List (Nat × AV)} {vs:List (Nat × Value)} {l l':List T.den} {cells:Array Value},
  buildL bxs T ps l = some l'→PartsR g ps vs→Elems (CR g.fz T) l cells.toList→l'.length = l.length∧∃ cells',Instr.fill (fun i=>some (i * T.size,T.size)) cells vs = some cells'∧Elems (CR g.fz T) l' cells'.toList
 | [],[],l,l',cells,h,_,hg=>by
  simp only [buildL,Option.some.injEq] at h
  subst h
  exact ⟨rfl,cells,rfl,hg⟩
 | [],_ :: _,_,_,_,_,hp,_=>hp.elim
 | _ :: _,[],_,_,_,_,hp,_=>hp.elim
 | (i,v) :: ps,(j,c) :: vs,l,l',cells,h,⟨hij,hv,hp⟩,hg=>by
  subst hij
  simp only [buildL] at h
  split at h
  ·rename_i hc
   split at h
   ·rename_i x hx
    have hT:∀ (x:T.den) (cs:List Value),CR g.fz T x cs→cs.length = T.size:=fun x cs h=>h.length
    have hcr:=norm_ok hb hf hx (hv.gs hc.1)
    obtain ⟨a,b,c0,ea,ha,h0,hset⟩:=hg.set hT i hc.2 hcr
    have hsz:c.cells.size = T.size:=by rw [← hcr.length]; simp
    have hlen:=hg.length hT
    have hle:i * T.size + T.size≤cells.size:=by
     have h1:(i + 1) * T.size≤l.length * T.size:=Nat.mul_le_mul_right _ hc.2
     rw [Nat.succ_mul] at h1
     rw [← Array.length_toList,hlen]
     exact h1
    obtain ⟨cells',h3,h4⟩:=fill_cons (ps:=vs) (v:=c) (cells:=cells) (place:=fun i=>some (i * T.size,T.size)) rfl hsz hle
    have hc0:c0.length = c.cells.toList.length:=by rw [hT _ _ h0]; simp [hsz]
    have h5:cells'.toList = a++(c.cells.toList++b):=by
     rw [h4,ea,← ha,List.take_left,← hc0,← List.append_assoc a c0 b,← List.length_append,List.drop_left,List.append_assoc]
    rw [← h5] at hset
    obtain ⟨h6,cells2,h7,h8⟩:=buildL_ok hb hf h hp hset
    exact ⟨by rw [h6,List.length_set],cells2,by rw [h3]; exact h7,h8⟩
   ·cases h
  ·cases h
theorem range_copies (z:Array Value):∀ n,((List.range (n * z.size)).map fun k=>z[k % z.size]!) = (List.replicate n z.toList).flatten
 | 0=>by simp
 | n + 1=>by
  by_cases hz:z.size = 0
  ·have:z.toList = []:=List.eq_nil_of_length_eq_zero (by simpa using hz)
   simp [hz,this]
  ·rw [Nat.succ_mul,Nat.add_comm,List.range_add,List.map_append,List.replicate_succ,List.flatten_cons,List.map_map]
   congr 1
   ·apply List.ext_getElem
    ·simp
    ·intro i h1 h2
     have hi:i < z.size:=by simpa using h2
     simp [Nat.mod_eq_of_lt hi,hi]
   ·rw [← range_copies z n]
    apply List.map_congr_left
    intro k _
    simp
theorem elems_copies {α:Type} {R:α→List Value→Prop} {x:α} {cs:List Value} (h:R x cs):∀ n,Elems R (List.replicate n x) (List.replicate n cs).flatten
 | 0=>rfl
 | n + 1=>⟨cs,(List.replicate n cs).flatten,rfl,h,elems_copies h n⟩
end
end Go.V
namespace Go.V
variable [Codes]
section
variable {C:Cfg} {P:Program}
theorem placesM (hC:CfgOK C P):∀ (fs:List Field),(∀ f∈fs,C.size f.type ≠ 0) →
  fs.mapM (fun f=>(P.info? f.type).map fun i=>(f.offset,i.size)) = some (fs.map fun f=>(f.offset,C.size f.type))
 | [],_=>rfl
 | f :: fs,h=>by
  obtain ⟨i,h1,h2,_⟩:=hC.size f.type (h f (by simp))
  simp [List.mapM_cons,h1,h2,placesM hC fs (fun f hf=>h f (by simp [hf]))]
theorem buildV_ok (hC:CfgOK C P) {g:Gh} {s:St} {tm:Array Value} {tms:List (Array Value)} {w:World} (hs:StR g s tm tms w) {t:Nat} {ps:List (Nat × AV)} {c:Bool} {v:AV} {e:Eff}
  (h:buildV C s.bxs t ps = some (c,v,e)) {vs:Array (Nat × Value)} (hp:PartsR g ps vs.toList):e = .none∧∃ z,(Instr.build t vs).run P w = .ok z w∧VR g v z:=by
 unfold buildV at h
 split at h
 ·rename_i fs hu
  split at h
  ·rename_i gs hz
   split at h
   ·rename_i hall
    split at h
    ·rename_i gs' hb
     simp only [ok,Option.some.injEq,Prod.mk.injEq] at h
     obtain ⟨_,rfl,rfl⟩:=h
     obtain ⟨fields,hd,hf⟩:=hC.st t fs hu
     obtain ⟨i,z,hi,_,_,hiz,hg⟩:=hC.zero t gs hz
     have hne:∀ f∈fields.toList,C.size f.type ≠ 0:=fun f hm=>by
      have h1:=List.all_eq_true.1 hall (f.offset,f.type) (by rw [← hf]; exact List.mem_map.2 ⟨f,hm,rfl⟩)
      simp only [Bool.not_eq_true'] at h1
      intro h2
      rw [h2] at h1
      cases h1
     have hpl:=placesM hC fields.toList hne
     obtain ⟨cells,h1,h2⟩:=buildSt_ok (place:=((fields.toList.map fun f=>(f.offset,C.size f.type)).toArray[·]?)) (fun i o t hfi hn=>by
       rw [← hf,List.getElem?_map,Option.map_eq_some_iff] at hfi
       obtain ⟨f,hfi,he⟩:=hfi
       simp only [Prod.mk.injEq] at he
       simp only [List.getElem?_toArray,List.getElem?_map,hfi,Option.map_some,he.1,he.2]) hb hp (hg g)
     refine ⟨rfl,.agg cells,run_build w t vs cells ?_,⟨cells,rfl,h2⟩⟩
     unfold Program.built
     simp only [hi,hd,hiz,hpl]
     exact h1
    ·cases h
   ·cases h
  ·cases h
 ·rename_i n e' hu
  split at h
  ·rename_i m T hT
   split at h
   ·rename_i hc
    obtain ⟨rfl,hsz,hnz⟩:=hc
    split at h
    ·rename_i l hl
     simp only [ok,Option.some.injEq,Prod.mk.injEq] at h
     obtain ⟨_,rfl,rfl⟩:=h
     have hd:=hC.arr t _ _ hu
     obtain ⟨_,i,z,hi,_,_,_,hiz,hg⟩:=hC.ty t _ hT
     obtain ⟨ie,hie,hies,_⟩:=hC.size e' hnz
     obtain ⟨_,hel⟩:=hg g.fz
     obtain ⟨h0,cells,h1,h2⟩:=buildL_ok hs.bxs.w hs.fz hl hp hel
     refine ⟨rfl,.agg cells,run_build w t vs cells ?_,⟨cells,rfl,by rw [h0,List.length_replicate],h2⟩⟩
     unfold Program.built
     simp only [hi,hd,hiz,hie,hies,← hsz]
     exact h1
    ·cases h
   ·cases h
  ·cases h
 ·cases h
theorem run_buildSlice {w:World} {t len e:Nat} {vs:Array (Nat × Value)} {i:TypeInfo} {z:Value} (hd:P.underlying t = some (.slice e)) (hi:P.info? e = some i) (hz:i.zero = some z) (hl:len * i.size≤16777216)
  (hzs:z.cells.size = i.size) {cells:Array Value} (hf:Instr.fill (fun k=>some (k * i.size,i.size)) (List.replicate len z.cells.toList).flatten.toArray vs.toList = some cells) :
  (Instr.buildSlice t len vs).run P w = .ok (.slice (some ⟨w.heap.size,0,none⟩) len len) (w.alloc (.cells cells e)):=by
 have hn:¬ (16777216 < len * i.size):=by omega
 have e1:∀ z':Array Value,(len * i.size = 0 ∨ z' = z.cells)→((Array.range (len * i.size)).map (z'[· % z'.size]!)) = (List.replicate len z.cells.toList).flatten.toArray:=by
  intro z' hz'
  rw [← range_copies,hzs]
  rcases hz' with h | rfl
  ·simp [h]
  ·apply Array.ext'
   simp only [Array.toList_map,Array.toList_range,hzs]
 by_cases h0:len * i.size = 0
 ·have e2:=e1 #[] (.inl h0)
  rw [← e2] at hf
  simp only [Array.size_empty] at hf
  simp [Instr.buildSlice,run_underlying hd,sizeOf,typeInfo,hi,h0,newRow] at hf ⊢
  simp [hf]
 ·have e2:=e1 z.cells (.inr rfl)
  rw [← e2] at hf
  simp [Instr.buildSlice,run_underlying hd,sizeOf,typeInfo,zeroValue,hi,hz,hn,h0,newRow,hf]
theorem buildSliceV_ok (hC:CfgOK C P) {g:Gh} {s:St} {tm:Array Value} {tms:List (Array Value)} {w:World} (hs:StR g s tm tms w) {t len:Nat} {ps:List (Nat × AV)} {c:Bool} {v:AV} {e:Eff}
  (h:buildSliceV C s.bxs t len ps = some (c,v,e)) {vs:Array (Nat × Value)} (hp:PartsR g ps vs.toList) :
  e = .none∧∃ z w' g',(Instr.buildSlice t len vs).run P w = .ok z w'∧VR g' v z∧StR g' s tm tms w'∧Tr g w g' w':=by
 unfold buildSliceV at h
 split at h
 ·rename_i e' hu
  split at h
  ·rename_i T hT
   split at h
   ·rename_i hc
    split at h
    ·rename_i l hl
     simp only [ok,Option.some.injEq,Prod.mk.injEq] at h
     obtain ⟨_,rfl,rfl⟩:=h
     have hd:=hC.sl t _ hu
     obtain ⟨hts,i,z,hi,his,_,_,hiz,hg⟩:=hC.ty e' _ hT
     have hzs:z.cells.size = i.size:=by rw [his,← hts,← (hg g.fz).length]; simp
     have hel:Elems (CR g.fz T) (List.replicate len T.dflt) (List.replicate len z.cells.toList).flatten.toArray.toList:=elems_copies (hg g.fz) len
     obtain ⟨h0,cells,h1,h2⟩:=buildL_ok hs.bxs.w hs.fz hl hp hel
     rw [hts,← his] at h1
     have hr:=run_buildSlice (w:=w) hd hi hiz (by rw [his]; exact hc.2) hzs h1
     obtain ⟨k1,k2,k3,k4⟩:=hs.lit cells.toList e'
     simp only [Array.toArray_toList] at k1 k2 k3
     refine ⟨rfl,_,_,_,hr,?_,k1,k2⟩
     refine .inr ⟨w.heap.size,0,cells.toList,?_,h2.mono (fun x cs h=>h.mono k3.fz),k4⟩
     rw [h0,List.length_replicate]
    ·cases h
   ·cases h
  ·cases h
 ·cases h
theorem buildRow_ok (hC:CfgOK C P) {g:Gh} {s:St} {tm:Array Value} {tms:List (Array Value)} {w:World} (hs:StR g s tm tms w) {t len key:Nat} {ps:List (Nat × AV)} {T:Ty} {l:List T.den}
  (h:buildSliceV C s.bxs t len ps = some (true,.full T l,.none)) (hk:find s.bxs key = none) {vs:Array (Nat × Value)} (hp:PartsR g ps vs.toList) :
  ∃ z w' g',(Instr.buildSlice t len vs).run P w = .ok z w'∧VR g' (.row key .whole) z∧StR g' ((Eff.add key (.row T false l)).apply s) tm tms w'∧Tr g w g' w':=by
 unfold buildSliceV at h
 split at h
 ·rename_i e' hu
  split at h
  ·rename_i T' hT
   split at h
   ·rename_i hc
    split at h
    ·rename_i l' hl
     simp only [ok,Option.some.injEq,Prod.mk.injEq,true_and,and_true,AV.full.injEq] at h
     obtain ⟨rfl,h⟩:=h
     obtain rfl:=eq_of_heq h
     have hd:=hC.sl t _ hu
     obtain ⟨hts,i,z,hi,his,_,_,hiz,hg⟩:=hC.ty e' _ hT
     have hzs:z.cells.size = i.size:=by rw [his,← hts,← (hg g.fz).length]; simp
     have hel:Elems (CR g.fz T') (List.replicate len T'.dflt) (List.replicate len z.cells.toList).flatten.toArray.toList:=elems_copies (hg g.fz) len
     obtain ⟨h0,cells,h1,h2⟩:=buildL_ok hs.bxs.w hs.fz hl hp hel
     rw [hts,← his] at h1
     have hr:=run_buildSlice (w:=w) hd hi hiz (by rw [his]; exact hc.2) hzs h1
     rw [List.length_replicate] at h0
     have hlc:=h2.length (fun x cs h=>h.length)
     let gb:Gb:=⟨true,true,some w.heap.size,0,len,len,T'.size,none⟩
     have hbx:BoxR (g.put key gb) (.row T' false l') gb (w.alloc (.cells cells e')) :=
      ⟨rfl,rfl,h0.symm,Nat.le_refl _,cells.toList,cells.toList,by simpa using blkIs_alloc w cells.toList e',by simp only [gb]; rw [hlc,h0,Nat.zero_add]; exact Nat.le_refl _,h2,fun j v e=>by simpa [gb] using e,fun _ o=>hs.fz.noneAt (Nat.le_refl _) o,fun h=>nomatch h⟩
     obtain ⟨k1,k2,_⟩:=hs.add hk (World.grownBy_alloc w _ none) (.row T' false l') gb hbx (fun blk e1 _=>by cases e1; exact Nat.le_refl _)
     exact ⟨_,_,_,hr,⟨gb,_,Gh.put_same _ _ _,rfl,rfl,rfl⟩,k1,k2⟩
    ·cases h
   ·cases h
  ·cases h
 ·cases h
theorem fresh2_ok {g:Gh} {s:St} {tm:Array Value} {tms:List (Array Value)} {w w':World} (hs:StR g s tm tms w) {key:Nat} (hk:find s.bxs key = none) {S:Ty} {L:List S.den} {cs rest:List Value}
  (hL:Elems (CR g.fz S) L cs) {cap:Nat} (hc:L.length≤cap) (hr:rest.length = (cap - L.length) * S.size) (hgr:w.grownBy w' none) (hb:BlkIs w' w.heap.size (cs++rest)) :
  let gb:Gb:=⟨true,true,some w.heap.size,0,L.length,cap,S.size,none⟩
  VR (g.put key gb) (.row key .whole) (.slice (some ⟨w.heap.size,0,none⟩) L.length cap)∧StR (g.put key gb) ((Eff.add key (.row S false L)).apply s) tm tms w'∧Tr g w (g.put key gb) w':=by
 intro gb
 have hlc:=hL.length (fun x cs h=>h.length)
 have hbx:BoxR g (.row S false L) gb w':=by
  refine ⟨rfl,rfl,rfl,hc,cs++rest,cs,hb,?_,hL,?_,fun _ o=>hs.fz.noneAt (Nat.le_refl _) o,fun h=>nomatch h⟩
  ·rw [List.length_append,hlc,hr,← Nat.add_mul]
   simp only [gb]
   rw [Nat.zero_add,Nat.add_sub_cancel' hc]
   exact Nat.le_refl _
  ·intro j v e
   simp only [gb,Nat.zero_add]
   rw [List.getElem?_append_left (List.getElem?_eq_some_iff.1 e).1]
   exact e
 have hb:=boxR_fzSame (g':=g.put key gb) rfl hbx
 obtain ⟨h1,h2,_⟩:=hs.add hk hgr (.row S false L) gb hb (fun blk e1 _=>by cases e1; exact Nat.le_refl _)
 exact ⟨⟨gb,_,Gh.put_same _ _ _,rfl,rfl,rfl⟩,h1,h2⟩
theorem makeSliceV_ok (hC:CfgOK C P) {g:Gh} {s:St} {tm:Array Value} {tms:List (Array Value)} {w:World} (hs:StR g s tm tms w) {key t:Nat} {n c v:AV} {e:Eff}
  (h:makeSliceV C key t n c = some (true,v,e)) (hk:find s.bxs key = none) {x y:Value} (hx:VR g n x) (hy:VR g c y) :
  ∃ z w' g',(Instr.makeSlice t x y).run P w = .ok z w'∧VR g' v z∧StR g' (e.apply s) tm tms w'∧Tr g w g' w':=by
 unfold makeSliceV at h
 split at h
 ·rename_i e' n' c' hu hn hc
  split at h
  ·rename_i T hT
   split at h
   ·simp only [Option.some.injEq,Prod.mk.injEq] at h
    obtain ⟨hcond,rfl,rfl⟩:=h
    obtain ⟨kn,rfl⟩:=idx_ok hn hx
    obtain ⟨kc,rfl⟩:=idx_ok hc hy
    simp only [Bool.and_eq_true,decide_eq_true_eq] at hcond
    obtain ⟨⟨h0,h1⟩,h2'⟩:=hcond
    have h2:c'≤1073741824:=h2'
    have hd:=hC.sl t _ hu
    obtain ⟨hts,i,z,hi,his,_,hbt,hiz,hg⟩:=hC.ty e' _ hT
    have hb':(i.bytes:Int) * c'≤281474976710656:=by
     have h3:(i.bytes:Int) * c'≤(65536:Int) * 1073741824:=Int.mul_le_mul (by omega) (by omega) (by omega) (by omega)
     omega
    have hr:=run_make (P:=P) w t e' i z hd hi hiz kn kc n' c' h0 h1 hb' (by omega)
    have hzs:z.cells.size = i.size:=by rw [his,← hts,← (hg g.fz).length]; simp
    have hcells:(madeCells z.cells (c'.toNat * i.size)).toList = (List.replicate n'.toNat z.cells.toList).flatten++(List.replicate (c'.toNat - n'.toNat) z.cells.toList).flatten:=by
     rw [← List.flatten_append,List.replicate_append_replicate,show n'.toNat + (c'.toNat - n'.toNat) = c'.toNat by omega,← range_copies,hzs]
     simp only [madeCells,Array.toList_map,Array.toList_range,hzs]
    have hL:Elems (CR g.fz T) (List.replicate n'.toNat T.dflt) (List.replicate n'.toNat z.cells.toList).flatten:=elems_copies (hg g.fz) _
    have hlen:(List.replicate (c'.toNat - n'.toNat) z.cells.toList).flatten.length = (c'.toNat - (List.replicate n'.toNat T.dflt).length) * T.size:=by
     simp [hzs,his,hts]
    have hblk:BlkIs (w.alloc (.cells (madeCells z.cells (c'.toNat * i.size)) e')) w.heap.size ((List.replicate n'.toNat z.cells.toList).flatten++(List.replicate (c'.toNat - n'.toNat) z.cells.toList).flatten):=by
     rw [← hcells]
     have:=blkIs_alloc w (madeCells z.cells (c'.toNat * i.size)).toList e'
     simpa using this
    obtain ⟨k1,k2,k3⟩:=fresh2_ok hs hk (cap:=c'.toNat) hL (by simp; omega) hlen (World.grownBy_alloc w _ none) hblk
    refine ⟨_,_,_,hr,?_,k2,k3⟩
    simpa using k1
   ·cases h
  ·cases h
 ·cases h
end
end Go.V
