/- Abstract values, boxes and the abstract run of straight code: definitions alone. -/
import Derived.WalkKit
set_option linter.all false
set_option linter.unusedVariables false
set_option linter.unusedSectionVars false
set_option linter.unusedSimpArgs false
namespace Go.V

/-- Types of plain data. -/
inductive Ty where
  | int (k : IntKind) | bool | str | sl (e : Ty) | unit | pair (a b : Ty) | arr (n : Nat) (e : Ty)
  deriving DecidableEq

@[reducible] def Ty.den : Ty → Type
  | .int _ => Int
  | .bool => Bool
  | .str => ByteArray
  | .sl e => List e.den
  | .unit => Unit
  | .pair a b => a.den × b.den
  | .arr _ e => List e.den

def Ty.size : Ty → Nat
  | .int _ | .bool | .str | .sl _ => 1
  | .unit => 0
  | .pair a b => a.size + b.size
  | .arr n e => n * e.size

def Ty.dflt : (T : Ty) → T.den
  | .int _ => (0 : Int)
  | .bool => false
  | .str => (⟨#[]⟩ : ByteArray)
  | .sl _ => []
  | .unit => ()
  | .pair a b => (a.dflt, b.dflt)
  | .arr n e => List.replicate n e.dflt

/-- The element at an index; the zero value beyond the end. -/
def at_ (T : Ty) (l : List T.den) (i : Int) : T.den := l.getD i.toNat T.dflt

/-- A window of a row. -/
inductive Win where
  | whole
  | part (off n : Nat) (full : Bool)

def Win.app {α : Type} : Win → List α → List α
  | .whole, l => l
  | .part off n _, l => (l.drop off).take n

def Win.isWhole : Win → Bool
  | .whole => true
  | _ => false

/-- A step of a pointer into an array: of n elements of some size, the element i, and cells behind its begin. -/
structure Stp where
  n : Nat
  sz : Nat
  i : Int
  o : Nat

inductive AV where
  | val (T : Ty) (x : T.den)
  | full (T : Ty) (l : List T.den)
  /-- a slice that is not nil -/
  | nn (T : Ty) (l : List T.den)
  | nils
  | agg (gs : List AV)
  | tup (vs : List AV)
  | nilp
  | ptr (b off : Nat) (p : List Stp)
  | rptr (b : Nat) (i : Int) (o : Nat)
  | eptr (gs : List AV)
  | row (b : Nat) (w : Win)
  /-- a window of an array variable: its box, its place there, its length, where the window begins, its length -/
  | vsl (b off n lo len : Nat)
  | fn (f : FuncId) (caps : List AV)
  | nilf
  /-- the function that a loop over a function hands down -/
  | yld (b : Nat)
  | iface (t : TypeId) (v : AV)
  | nili
  | junk

inductive Box where
  | var (gs : List AV)
  | row (T : Ty) (fz : Bool) (l : List T.den)
  /-- the record of a loop over a function: is a round under way; its function, the number of the loop in it; the slots at its entry -/
  | loop (busy : Bool) (f id : Nat) (env : List (Nat × AV))
  /-- such a record behind its loop -/
  | dead

abbrev Env := List (Nat × AV)
abbrev Bxs := List (Nat × Box)

structure St where
  env : Env
  stk : List Env
  bxs : Bxs

def find {α : Type} : List (Nat × α) → Nat → Option α
  | [], _ => none
  | (k, v) :: l, n => bif Nat.beq k n then some v else find l n

def setB : Bxs → Nat → Box → Bxs
  | [], k, b => [(k, b)]
  | (j, c) :: l, k, b => bif Nat.beq j k then (k, b) :: l else (j, c) :: setB l k b

/-! Groups: a value's cells, an array's cells being one group. -/
def AV.size : AV → Nat
  | .val T _ => T.size
  | _ => 1

def gsSize : List AV → Nat
  | [] => 0
  | g :: gs => g.size + gsSize gs

def Ty.gs : (T : Ty) → T.den → List AV
  | .unit, _ => []
  | .pair a b, x => a.gs x.1 ++ b.gs x.2
  | .int k, x => [.val (.int k) x]
  | .bool, x => [.val .bool x]
  | .str, x => [.val .str x]
  | .sl e, x => [.val (.sl e) x]
  | .arr n e, x => [.val (.arr n e) x]

/-- A value's groups. -/
def AV.gs : AV → List AV
  | .agg gs => gs
  | v => [v]

/-- A typed value as an abstract one. -/
def Ty.av (T : Ty) (x : T.den) : AV :=
  match T, x with
  | .pair a b, x => .agg (Ty.gs (.pair a b) x)
  | .unit, _ => .agg []
  | T, x => .val T x

def dropGs : List AV → Nat → Option (List AV)
  | gs, 0 => some gs
  | [], _ + 1 => none
  | g :: gs, n + 1 => bif Nat.ble g.size (n + 1) then dropGs gs (n + 1 - g.size) else none

def takeGs : List AV → Nat → Option (List AV)
  | _, 0 => some []
  | [], _ + 1 => none
  | g :: gs, n + 1 => bif Nat.ble g.size (n + 1) then (takeGs gs (n + 1 - g.size)).map (g :: ·) else none

/-- Groups with others in the place of some, from a cell on. -/
def putGs : List AV → Nat → List AV → Option (List AV)
  | gs, 0, new => (dropGs gs (gsSize new)).map (new ++ ·)
  | [], _ + 1, _ => none
  | g :: gs, n + 1, new => bif Nat.ble g.size (n + 1) then (putGs gs (n + 1 - g.size) new).map (g :: ·) else none

/-- One group as a typed value: a row must be frozen. -/
def conv (bx : Bxs) (T : Ty) (v : AV) : Option T.den :=
  match v with
  | .val S x => if h : S = T then some (h ▸ x) else none
  | .full S l => if h : Ty.sl S = T then some (h ▸ (show (Ty.sl S).den from l)) else none
  | .nn S l => if h : Ty.sl S = T then some (h ▸ (show (Ty.sl S).den from l)) else none
  | .nils => match T with
    | .sl _ => some []
    | _ => none
  | .row b w => match find bx b with
    | some (.row S true l) => if h : Ty.sl S = T then some (h ▸ (show (Ty.sl S).den from w.app l)) else none
    | _ => none
  | _ => none

/-- Groups as a typed value, and what is left. -/
def Ty.rd (bx : Bxs) : (T : Ty) → List AV → Option (T.den × List AV)
  | .unit, l => some ((), l)
  | .pair a b, l => match a.rd bx l with
    | some (x, l) => match b.rd bx l with
      | some (y, l) => some ((x, y), l)
      | none => none
    | none => none
  | T, v :: l => match conv bx T v with
    | some x => some (x, l)
    | none => none
  | _, [] => none

def AV.isAgg : AV → Bool
  | .agg _ => true
  | .val (.arr _ _) _ => true
  | _ => false

def Ty.isAgg : Ty → Bool
  | .pair _ _ | .unit | .arr _ _ => true
  | _ => false

/-- A value as a typed one. -/
def norm (bx : Bxs) (T : Ty) (v : AV) : Option T.den :=
  match T.rd bx v.gs with
  | some (x, []) => bif v.isAgg == T.isAgg then some x else none
  | _ => none

/-- Part of a typed value, from a cell on, replaced. -/
def Ty.put (bx : Bxs) (T : Ty) (x : T.den) (o : Nat) (new : List AV) : Option T.den :=
  match putGs (T.gs x) o new with
  | some gs => match T.rd bx gs with
    | some (y, []) => some y
    | _ => none
  | none => none

/-- A value that has cells. -/
def AV.okGs : AV → Bool
  | .junk | .tup _ => false
  | _ => true

/-- A value that is one cell. -/
def AV.single : AV → Bool
  | .agg _ | .tup _ | .junk => false
  | .val (.arr _ _) _ | .val (.pair _ _) _ | .val .unit _ => false
  | _ => true

/-! Types of the program. -/
inductive UT where
  | int (k : IntKind) | bool | str | ptr (e : Nat) | sl (e : Nat) | arr (n e : Nat) | st (fs : List (Nat × Nat))
  | fn | iface | map (k e : Nat) | tup | oth

structure HSpec where
  params : List Ty
  res : List Ty
  fn : List AV → Option (List AV)

structure Fun where
  code : Code
  ntmps : Nat
  res : List (ResultVar)
  np : Nat

structure Cfg where
  unders : List UT
  sizes : List Nat
  tys : List (Option Ty)
  bytes : List Nat
  zeros : List (Option (List AV))
  glob : Nat → Option AV
  /-- structs of numbers, bools and strings alone, that may be compared -/
  eqs : List Nat := []

def Cfg.under (C : Cfg) (t : Nat) : UT := C.unders.getD t .oth
def Cfg.size (C : Cfg) (t : Nat) : Nat := C.sizes.getD t 0
def Cfg.ty (C : Cfg) (t : Nat) : Option Ty := C.tys.getD t none
def Cfg.zero (C : Cfg) (t : Nat) : Option (List AV) := C.zeros.getD t none

def UT.agg : UT → Bool
  | .st _ | .arr _ _ => true
  | _ => false

/-! Constants. -/
mutual
def ofConst : Value → Option AV
  | .int k n => some (.val (.int k) n)
  | .bool b => some (.val .bool b)
  | .string s => some (.val .str s)
  | .slice none 0 0 => some .nils
  | .pointer none => some .nilp
  | .nilFunc => some .nilf
  | .nilIface => some .nili
  | _ => none
end

def ev (C : Cfg) (env : Env) : Operand → Option AV
  | .tmp t => find env t
  | .const v => ofConst v
  | .global g => C.glob g
  | .func f => some (.fn f [])

/-! Effects. -/
inductive Eff where
  | none
  | add (k : Nat) (b : Box)
  | upd (k : Nat) (b : Box)
  | app (k : Nat) (b : Box)

mutual
def AV.has (k : Nat) : AV → Bool
  | .row b _ => Nat.beq b k
  | .rptr b _ _ => Nat.beq b k
  | .agg gs => hasL k gs
  | .tup gs => hasL k gs
  | .fn _ gs => hasL k gs
  | .iface _ v => v.has k
  | _ => false
def hasL (k : Nat) : List AV → Bool
  | [] => false
  | g :: gs => g.has k || hasL k gs
end

def AV.stale (k : Nat) (v : AV) : AV := bif v.has k then .junk else v
def staleL (k : Nat) : List AV → List AV
  | [] => []
  | g :: gs => g.stale k :: staleL k gs
def staleE (k : Nat) : Env → Env
  | [] => []
  | (n, v) :: l => (n, v.stale k) :: staleE k l
def staleS (k : Nat) : List Env → List Env
  | [] => []
  | e :: l => staleE k e :: staleS k l
def staleB (k : Nat) : Bxs → Bxs
  | [] => []
  | (n, .var gs) :: l => (n, .var (staleL k gs)) :: staleB k l
  | (n, .loop u f i env) :: l => (n, .loop u f i (staleE k env)) :: staleB k l
  | (n, b) :: l => (n, b) :: staleB k l

def Eff.apply (e : Eff) (s : St) : St :=
  match e with
  | .none => s
  | .add k b => { s with bxs := (k, b) :: s.bxs }
  | .upd k b => { s with bxs := setB s.bxs k b }
  | .app k b => { env := staleE k s.env, stk := staleS k s.stk, bxs := setB (staleB k s.bxs) k b }

/-! Operations. -/
def shlV (k : IntKind) (x y : Int) : Int := k.wrap (x * 2 ^ (min y.toNat k.bits))
def shrV (k : IntKind) (x y : Int) : Int := x.fdiv (2 ^ (min y.toNat k.bits))
def andV (k : IntKind) (x y : Int) : Int := k.wrap (BitVec.ofInt k.bits x &&& BitVec.ofInt k.bits y).toNat
def orV (k : IntKind) (x y : Int) : Int := k.wrap (BitVec.ofInt k.bits x ||| BitVec.ofInt k.bits y).toNat
def xorV (k : IntKind) (x y : Int) : Int := k.wrap (BitVec.ofInt k.bits x ^^^ BitVec.ofInt k.bits y).toNat
def andNotV (k : IntKind) (x y : Int) : Int := k.wrap (BitVec.ofInt k.bits x &&& ~~~ BitVec.ofInt k.bits y).toNat

abbrev R3 := Option (Bool × AV × Eff)
def ok (v : AV) : R3 := some (true, v, .none)
def okIf (c : Bool) (v : AV) : R3 := some (c, v, .none)
def okB (b : Bool) : R3 := some (true, .val .bool b, .none)

def intOp (op : BinOp) (k : IntKind) (x y : Int) : R3 :=
  match op with
  | .add => ok (.val (.int k) (k.wrap (x + y)))
  | .sub => ok (.val (.int k) (k.wrap (x - y)))
  | .mul => ok (.val (.int k) (k.wrap (x * y)))
  | .quo => okIf (decide (y ≠ 0)) (.val (.int k) (k.wrap (x.tdiv y)))
  | .rem => okIf (decide (y ≠ 0)) (.val (.int k) (x.tmod y))
  | .and => ok (.val (.int k) (andV k x y))
  | .or => ok (.val (.int k) (orV k x y))
  | .xor => ok (.val (.int k) (xorV k x y))
  | .andNot => ok (.val (.int k) (andNotV k x y))
  | .eql => okB (decide (x = y))
  | .neq => okB (decide (x ≠ y))
  | .lss => okB (decide (x < y))
  | .leq => okB (decide (x ≤ y))
  | .gtr => okB (decide (x > y))
  | .geq => okB (decide (x ≥ y))
  | .shl => okIf (decide (0 ≤ y)) (.val (.int k) (shlV k x y))
  | .shr => okIf (decide (0 ≤ y)) (.val (.int k) (shrV k x y))

def catOk (x y : ByteArray) : Bool := decide (x.size + y.size ≤ 9223372036854775807)
def strLt (x y : ByteArray) : Bool := Op.bytesLess x.toList y.toList
def strOp (op : BinOp) (x y : ByteArray) : R3 :=
  match op with
  | .add => okIf (catOk x y) (.val .str (x ++ y))
  | .eql => okB (decide (x = y))
  | .neq => okB (!decide (x = y))
  | .lss => okB (strLt x y)
  | .leq => okB (strLt x y || decide (x = y))
  | .gtr => okB (!(strLt x y || decide (x = y)))
  | .geq => okB (!strLt x y)
  | _ => none

/-- Equality of structs of whole numbers, bools and strings, field by field. -/
def eqGs (C : Cfg) : List (Nat × Nat) → List AV → List AV → Option Bool
  | [], [], [] => some true
  | (_, t) :: fs, .val (.int k) x :: a, .val (.int j) y :: b => match C.under t with
    | .int _ => if k = j then (eqGs C fs a b).map (decide ((show Int from x) = (show Int from y)) && ·) else none
    | _ => none
  | (_, t) :: fs, .val .bool x :: a, .val .bool y :: b => match C.under t with
    | .bool => (eqGs C fs a b).map (decide ((show Bool from x) = (show Bool from y)) && ·)
    | _ => none
  | (_, t) :: fs, .val .str x :: a, .val .str y :: b => match C.under t with
    | .str => (eqGs C fs a b).map (decide ((show ByteArray from x) = (show ByteArray from y)) && ·)
    | _ => none
  | _, _, _ => none

def eqV (op : BinOp) (c : Bool) : R3 :=
  match op with
  | .eql => okB c
  | .neq => okB (!c)
  | _ => none

def binV (C : Cfg) (op : BinOp) (t : Nat) (x y : AV) : R3 :=
  match x, y with
  | .val (.int k) a, .val (.int j) b => match op with
    | .shl | .shr => intOp op k a b
    | _ => if k = j then intOp op k a b else none
  | .val .str a, .val .str b => strOp op a b
  | .val .bool a, .val .bool b => match C.under t with
    | .bool => eqV op (decide ((show Bool from a) = (show Bool from b)))
    | _ => none
  | .nilp, .nilp => match C.under t with
    | .ptr _ => eqV op true
    | _ => none
  | .ptr .., .nilp | .rptr .., .nilp | .eptr .., .nilp => match C.under t with
    | .ptr _ => eqV op false
    | _ => none
  | .nils, .nils => match C.under t with
    | .sl _ => eqV op true
    | _ => none
  | .nn .., .nils => match C.under t with
    | .sl _ => eqV op false
    | _ => none
  | .nilf, .nilf => match C.under t with
    | .fn => eqV op true
    | _ => none
  | .fn .., .nilf => match C.under t with
    | .fn => eqV op false
    | _ => none
  | .agg a, .agg b => match C.under t with
    | .st fs => if C.eqs.contains t = true then match eqGs C fs a b with
        | some c => eqV op c
        | none => none
      else none
    | _ => none
  | _, _ => none

def unV (op : UnOp) (x : AV) : R3 :=
  match op, x with
  | .neg, .val (.int k) n => ok (.val (.int k) (k.wrap (0 - n)))
  | .xor, .val (.int k) n => ok (.val (.int k) (xorV k (if k.signed then -1 else k.max) n))
  | .not, .val .bool b => ok (.val .bool (!b))
  | _, _ => none

/-- What a slice reads as. -/
def viewT (C : Cfg) (bx : Bxs) (e : Nat) (v : AV) : Option ((T : Ty) × List T.den) :=
  match v with
  | .val (.sl T) l => some ⟨T, l⟩
  | .full T l => some ⟨T, l⟩
  | .nn T l => some ⟨T, l⟩
  | .nils => match C.ty e with
    | some T => some ⟨T, []⟩
    | none => none
  | .row b w => match find bx b with
    | some (.row T _ l) => some ⟨T, w.app l⟩
    | _ => none
  | _ => none

def ofBytes (l : List Int) : ByteArray := ⟨(l.map fun n => UInt8.ofNat n.toNat).toArray⟩
def toBytes (s : ByteArray) : List Int := s.data.toList.map fun b => (b.toNat : Int)
def byteAt (s : ByteArray) (i : Int) : Int := ((s.data.toList.getD i.toNat 0).toNat : Int)

def inR (i : Int) (n : Nat) : Bool := decide (0 ≤ i) && decide (i < n)

/-- The cells at a place of a box. -/
def gsAt : List AV → List Stp → Option (List AV)
  | gs, [] => some gs
  | .val (.arr n T) l :: _, s :: p => if n = s.n ∧ T.size = s.sz then match dropGs (T.gs (at_ T l s.i)) s.o with
      | some gs => gsAt gs p
      | none => none
    else none
  | _, _ => none

def loadAt (C : Cfg) (t : Nat) (gs : List AV) : R3 :=
  match C.under t with
  | .st _ => if C.size t = 0 then none else match takeGs gs (C.size t) with
    | some gs => ok (.agg gs)
    | none => none
  | .arr n _ => match gs with
    | .val (.arr m T) l :: _ => if n = m ∧ C.size t = m * T.size ∧ C.size t ≠ 0 then ok (.val (.arr m T) l) else none
    | _ => none
  | .oth | .tup => none
  | _ => match gs with
    | g :: _ => if g.single = true then ok g else none
    | [] => none

def loadV (C : Cfg) (bx : Bxs) (t : Nat) (a : AV) : R3 :=
  match a with
  | .eptr gs => loadAt C t gs
  | .ptr b off p => match find bx b with
    | some (.var gs) => match dropGs gs off with
      | some gs => match gsAt gs p with
        | some gs => loadAt C t gs
        | none => none
      | none => none
    | _ => none
  | .rptr b i o => match find bx b with
    | some (.row T _ l) => match dropGs (T.gs (at_ T l i)) o with
      | some gs => loadAt C t gs
      | none => none
    | _ => none
  | _ => none

/-- Groups in which, at a place, others stand. -/
def putAt (bx : Bxs) : List AV → Nat → List Stp → List AV → Option (List AV)
  | gs, off, [], new => putGs gs off new
  | gs, off, s :: p, new => match dropGs gs off with
    | some (.val (.arr n T) l :: _) => if n = s.n ∧ T.size = s.sz then
        match putAt bx (T.gs (at_ T l s.i)) s.o p new with
        | some es => match T.rd bx es with
          | some (y, []) => putGs gs off [.val (.arr n T) (l.set s.i.toNat y)]
          | _ => none
        | none => none
      else none
    | _ => none

def storeV (C : Cfg) (bx : Bxs) (t : Nat) (a v : AV) : R3 :=
  if v.okGs = true ∧ gsSize v.gs = C.size t ∧ C.size t ≠ 0 then
    match a with
    | .ptr b off p => match find bx b with
      | some (.var gs) => match putAt bx gs off p v.gs with
        | some gs => some (true, .tup [], .upd b (.var gs))
        | none => none
      | _ => none
    | .rptr b i o => match find bx b with
      | some (.row T false l) => match T.put bx (at_ T l i) o v.gs with
        | some y => some (true, .tup [], .upd b (.row T false (l.set i.toNat y)))
        | none => none
      | _ => none
    | _ => none
  else none

def fieldOff (C : Cfg) (s f : Nat) : Option (Nat × Nat) :=
  match C.under s with
  | .st fs => fs[f]?
  | _ => none

def addP : List Stp → Nat → List Stp
  | [], _ => []
  | [s], o => [{ s with o := s.o + o }]
  | s :: p, o => s :: addP p o

def fieldAddrV (C : Cfg) (s : Nat) (a : AV) (f : Nat) : R3 :=
  match fieldOff C s f with
  | some (o, ft) => if C.size ft = 0 then none else match a with
    | .eptr gs => match dropGs gs o with
      | some gs => ok (.eptr gs)
      | none => none
    | .ptr b off [] => ok (.ptr b (off + o) [])
    | .ptr b off p => ok (.ptr b off (addP p o))
    | .rptr b i j => ok (.rptr b i (j + o))
    | _ => none
  | none => none

def fieldV (C : Cfg) (s : Nat) (x : AV) (f : Nat) : R3 :=
  match fieldOff C s f, x with
  | some (o, t), .agg gs => match dropGs gs o with
    | some gs => loadAt C t gs
    | none => none
  | _, _ => none

/-- The number in an index. -/
def idx (v : AV) : Option Int :=
  match v with
  | .val (.int _) i => some i
  | _ => none

def indexAddrV (C : Cfg) (bx : Bxs) (t : Nat) (a iv : AV) : R3 :=
  match idx iv with
  | none => none
  | some i => match C.under t with
    | .arr n e => if C.size e = 0 then none else match a with
      | .eptr (.val (.arr m T) l :: _) => if n = m ∧ T.size = C.size e then okIf (inR i n) (.eptr (T.gs (at_ T l i))) else none
      | .ptr b off p => okIf (inR i n) (.ptr b off (p ++ [⟨n, C.size e, i, 0⟩]))
      | _ => none
    | .sl e => if C.size e = 0 then none else match a with
      | .row b .whole => match find bx b with
        | some (.row T _ l) => if T.size = C.size e then okIf (inR i l.length) (.rptr b i 0) else none
        | _ => none
      | .row b (.part off n _) => match find bx b with
        | some (.row T _ _) => if T.size = C.size e then okIf (inR i n) (.rptr b (off + i) 0) else none
        | _ => none
      | .vsl b off m lo n => if C.size e = 1 then okIf (inR i n) (.ptr b off [⟨m, 1, lo + i, 0⟩]) else none
      | a => match viewT C bx e a with
        | some ⟨T, l⟩ => if T.size = C.size e then okIf (inR i l.length) (.eptr (T.gs (at_ T l i))) else none
        | none => none
    | _ => none

def indexV (C : Cfg) (t : Nat) (x iv : AV) : R3 :=
  match idx iv with
  | none => none
  | some i => match C.under t, x with
    | .str, .val .str s => okIf (inR i s.size) (.val (.int .u8) (byteAt s i))
    | .arr n e, .val (.arr m T) l => if n = m ∧ T.size = C.size e ∧ C.size e ≠ 0 then match loadAt C e (T.gs (at_ T l i)) with
        | some (_, v, _) => okIf (inR i n) v
        | none => none
      else none
    | _, _ => none

/-- A part of a list, by bounds that may be missing. -/
def cutL {α : Type} (l : List α) (lo hi : Option Int) : List α :=
  match lo, hi with
  | none, none => l
  | some a, none => l.drop a.toNat
  | none, some b => l.take b.toNat
  | some a, some b => (l.take b.toNat).drop a.toNat

def cutOk (n : Nat) (lo hi : Option Int) : Bool :=
  match lo, hi with
  | none, none => true
  | some a, none => decide (0 ≤ a) && decide (a ≤ n)
  | none, some b => decide (0 ≤ b) && decide (b ≤ n)
  | some a, some b => decide (0 ≤ a) && decide (a ≤ b) && decide (b ≤ n)

def cutHi (n : Nat) : Option Int → Nat
  | some h => h.toNat
  | none => n

def cutS (s : ByteArray) (lo hi : Option Int) : ByteArray := s.extract ((lo.getD 0).toNat) (cutHi s.size hi)

def idxO (C : Cfg) (env : Env) : Option Operand → Option (Option Int)
  | none => some none
  | some x => match ev C env x with
    | some v => match idx v with
      | some i => some (some i)
      | none => none
    | none => none

/-- Where a cut begins, and how long it is. -/
def cutFrom (lo : Option Int) : Nat := (lo.getD 0).toNat
def cutLen (n : Nat) (lo hi : Option Int) : Nat := cutHi n hi - cutFrom lo

def sliceV (C : Cfg) (bx : Bxs) (t : Nat) (x : AV) (lo hi mx : Option Int) : R3 :=
  match C.under t with
  | .str => match x, mx with
    | .val .str s, none => okIf (cutOk s.size lo hi) (.val .str (cutS s lo hi))
    | _, _ => none
  | .sl e => if C.size e = 0 then none else match x with
    | .row b w => match find bx b with
      | some (.row T _ l) => if T.size = C.size e then
          match mx with
          | none => match w with
            | .whole => okIf (cutOk l.length lo hi) (.row b (.part (cutFrom lo) (cutLen l.length lo hi) false))
            | .part off n _ => okIf (cutOk n lo hi) (.row b (.part (off + cutFrom lo) (cutLen n lo hi) false))
          | some m => match w, hi with
            | .whole, some h => okIf (cutOk l.length lo hi && decide (h = m)) (.row b (.part (cutFrom lo) (cutLen l.length lo hi) true))
            | _, _ => none
        else none
      | _ => none
    | x => match viewT C bx e x with
      | some ⟨T, l⟩ => if T.size = C.size e then match mx with
          | none => okIf (cutOk l.length lo hi) (.val (.sl T) (cutL l lo hi))
          | some m => match hi with
            | some h => okIf (cutOk l.length lo (some h) && decide (h = m)) (.val (.sl T) (cutL l lo (some h)))
            | none => none
        else none
      | none => none
  | .arr n e => match x, mx with
    | .ptr b off [], none => if C.size e = 1 then okIf (cutOk n lo hi) (.vsl b off n (cutFrom lo) (cutLen n lo hi)) else none
    | _, _ => none
  | _ => none

/-- What a slice reads as, windows of arrays among them. -/
def viewA (C : Cfg) (bx : Bxs) (e : Nat) (v : AV) : Option ((T : Ty) × List T.den) :=
  match v with
  | .vsl b off m lo n => match find bx b with
    | some (.var gs) => match dropGs gs off with
      | some (.val (.arr k T) l :: _) => if k = m ∧ T.size = 1 then some ⟨T, (l.drop lo).take n⟩ else none
      | _ => none
    | _ => none
  | v => viewT C bx e v

def appLim : Nat := 1073741824

/-- What is appended. -/
def moreV (C : Cfg) (bx : Bxs) (e : Nat) (y : AV) : Option ((T : Ty) × List T.den) :=
  match y with
  | .val .str s => some ⟨.int .u8, toBytes s⟩
  | y => viewA C bx e y

def slOrStr : UT → Bool
  | .sl _ | .str => true
  | _ => false

def appendV (C : Cfg) (bx : Bxs) (key t : Nat) (x y : AV) (yt : Nat) : R3 :=
  match C.under t with
  | .sl e => match moreV C bx e y with
    | none => none
    | some ⟨S, m⟩ => if C.ty e = some S ∧ C.size e ≠ 0 ∧ slOrStr (C.under yt) = true then
        match x with
        | .nils => some (decide (m.length ≤ appLim), .row key .whole, .add key (.row S false m))
        | .full _ [] => some (decide (m.length ≤ appLim), .row key .whole, .add key (.row S false m))
        | .full T l => if h : S = T then some (decide (l.length + m.length ≤ appLim) && !m.isEmpty, .row key .whole, .add key (.row T false (l ++ (h ▸ m)))) else none
        | .row b w => match find bx b with
          | some (.row T fz l) => if h : S = T then
              bif (!fz || w.isWhole) then
                some (decide ((w.app l).length + m.length ≤ appLim), .row b .whole, .app b (.row T fz (w.app l ++ (h ▸ m))))
              else none
            else none
          | _ => none
        | _ => none
      else none
  | _ => none

def minV : List AV → Option AV
  | [.val (.int k) a, .val (.int _) b] => some (.val (.int k) (if (show Int from b) < (show Int from a) then b else a))
  | _ => none
def maxV : List AV → Option AV
  | [.val (.int k) a, .val (.int _) b] => some (.val (.int k) (if (show Int from b) > (show Int from a) then b else a))
  | _ => none

def lenV (C : Cfg) (bx : Bxs) (t : Nat) (x : AV) : R3 :=
  match C.under t, x with
  | .str, .val .str s => ok (.val (.int .i64) (s.size : Int))
  | .arr n _, _ => ok (.val (.int .i64) (n : Int))
  | .ptr a, _ => match C.under a with
    | .arr n _ => ok (.val (.int .i64) (n : Int))
    | _ => none
  | .sl _, .vsl _ _ _ _ n => ok (.val (.int .i64) (n : Int))
  | .sl e, x => match viewT C bx e x with
    | some ⟨_, l⟩ => ok (.val (.int .i64) (l.length : Int))
    | none => none
  | _, _ => none

def setRange {α : Type} (l : List α) (lo : Nat) (m : List α) : List α := l.take lo ++ m ++ l.drop (lo + m.length)

def copyV (C : Cfg) (bx : Bxs) (t : Nat) (x y : AV) : R3 :=
  match C.under t with
  | .sl e => if C.size e = 1 then match moreV C bx e y with
    | none => none
    | some ⟨S, m⟩ => match x with
      | .vsl b off q lo n => match find bx b with
        | some (.var gs) => match dropGs gs off with
          | some (.val (.arr k T) l :: _) => if h : S = T ∧ k = q ∧ T.size = 1 then
              match putGs gs off [.val (.arr k T) (setRange l lo ((h.1 ▸ m : List T.den).take n))] with
              | some gs => some (true, .val (.int .i64) (((m.take n).length : Nat) : Int), .upd b (.var gs))
              | none => none
            else none
          | _ => none
        | _ => none
      | _ => none
    else none
  | _ => none

/-- The groups of a struct that is built of parts. -/
def buildSt (C : Cfg) (fs : List (Nat × Nat)) : List (Nat × AV) → List AV → Option (List AV)
  | [], gs => some gs
  | (i, v) :: ps, gs => match fs[i]? with
    | some (o, t) => if v.okGs = true ∧ gsSize v.gs = C.size t ∧ C.size t ≠ 0 then match putGs gs o v.gs with
        | some gs => buildSt C fs ps gs
        | none => none
      else none
    | none => none

/-- The elements of a slice or an array that is built of parts. -/
def buildL (bx : Bxs) (T : Ty) : List (Nat × AV) → List T.den → Option (List T.den)
  | [], l => some l
  | (i, v) :: ps, l => if v.okGs = true ∧ i < l.length then match norm bx T v with
      | some x => buildL bx T ps (l.set i x)
      | none => none
    else none

def evL (C : Cfg) (env : Env) : List Operand → Option (List AV)
  | [] => some []
  | x :: l => match ev C env x with
    | some v => (evL C env l).map (v :: ·)
    | none => none

def evP (C : Cfg) (env : Env) : List (Nat × Operand) → Option (List (Nat × AV))
  | [] => some []
  | (i, x) :: l => match ev C env x with
    | some v => (evP C env l).map ((i, v) :: ·)
    | none => none

def buildV (C : Cfg) (bx : Bxs) (t : Nat) (parts : List (Nat × AV)) : R3 :=
  match C.under t with
  | .st fs => match C.zero t with
    | some gs => if fs.all (fun f => !Nat.beq (C.size f.2) 0) = true then match buildSt C fs parts gs with
        | some gs => ok (.agg gs)
        | none => none
      else none
    | none => none
  | .arr n e => match C.ty t with
    | some (.arr m T) => if n = m ∧ T.size = C.size e ∧ C.size e ≠ 0 then match buildL bx T parts (List.replicate m T.dflt) with
        | some l => ok (.val (.arr m T) l)
        | none => none
      else none
    | _ => none
  | _ => none

def buildSliceV (C : Cfg) (bx : Bxs) (t len : Nat) (parts : List (Nat × AV)) : R3 :=
  match C.under t with
  | .sl e => match C.ty e with
    | some T => if C.size e ≠ 0 ∧ len * C.size e ≤ 16777216 then match buildL bx T parts (List.replicate len T.dflt) with
        | some l => ok (.full T l)
        | none => none
      else none
    | none => none
  | _ => none

def convertV (C : Cfg) (bx : Bxs) (key src dst : Nat) (x : AV) : R3 :=
  match C.under src, C.under dst, x with
  | .int _, .int k, .val (.int _) n => ok (.val (.int k) (k.wrap n))
  | .str, .str, .val .str s => ok (.val .str s)
  | .sl e, .str, x => match C.under e with
    | .int .u8 => match viewA C bx e x with
      | some ⟨.int .u8, l⟩ => ok (.val .str (ofBytes l))
      | _ => none
    | _ => none
  | .str, .sl e, .val .str s => match C.under e with
    | .int .u8 => some (true, .row key .whole, .add key (.row (.int .u8) false (toBytes s)))
    | _ => none
  | _, _, _ => none

def makeSliceV (C : Cfg) (key t : Nat) (n c : AV) : R3 :=
  match C.under t, idx n, idx c with
  | .sl e, some n, some c => match C.ty e with
    | some T => if C.size e ≠ 0 then some (decide (0 ≤ n) && decide (n ≤ c) && decide (c ≤ appLim), .row key .whole, .add key (.row T false (List.replicate n.toNat T.dflt))) else none
    | none => none
  | _, _, _ => none

/-- What is captured: variables. -/
def capsOk : List AV → Bool
  | [] => true
  | .ptr _ 0 [] :: l => capsOk l
  | _ => false

def keyFree (bx : Bxs) (k : Nat) (r : R3) : R3 :=
  match find bx k with
  | some _ => none
  | none => r

def execA (C : Cfg) (base : Nat) (o : Oper) (s : St) : R3 :=
  let key := base + (o.dst.getD 0)
  match o.op with
  | .move x | .assign x => match ev C s.env x with
    | some v => ok v
    | none => none
  | .alloc t => match C.zero t with
    | some gs => keyFree s.bxs key (some (true, .ptr key 0 [], .add key (.var gs)))
    | none => none
  | .box _ x => match ev C s.env x with
    | some v => if v.okGs = true then keyFree s.bxs key (some (true, .ptr key 0 [], .add key (.var v.gs))) else none
    | none => none
  | .build t parts => match evP C s.env parts.toList with
    | some ps => buildV C s.bxs t ps
    | none => none
  | .buildSlice t n parts => match evP C s.env parts.toList with
    | some ps => buildSliceV C s.bxs t n ps
    | none => none
  | .load t a => match ev C s.env a with
    | some a => loadV C s.bxs t a
    | none => none
  | .store t a x => match ev C s.env a, ev C s.env x with
    | some a, some v => storeV C s.bxs t a v
    | _, _ => none
  | .nilCheck x => match ev C s.env x with
    | some (.ptr b off p) => ok (.ptr b off p)
    | some (.rptr b i j) => ok (.rptr b i j)
    | some (.eptr gs) => ok (.eptr gs)
    | _ => none
  | .binOp op t x y _ => match ev C s.env x, ev C s.env y with
    | some a, some b => binV C op t a b
    | _, _ => none
  | .unOp op _ x => match ev C s.env x with
    | some a => unV op a
    | none => none
  | .convert src dst x => match ev C s.env x with
    | some a => match convertV C s.bxs key src dst a with
      | some (c, v, .add k b) => keyFree s.bxs key (some (c, v, .add k b))
      | r => r
    | none => none
  | .makeFunc (.func f) first captured => match first.toList, evL C s.env captured.toList with
    | [], some l => if capsOk l = true then ok (.fn f l) else none
    | _, _ => none
  | .makeSlice t n c => match ev C s.env n, ev C s.env c with
    | some n, some c => keyFree s.bxs key (makeSliceV C key t n c)
    | _, _ => none
  | .slice t x lo hi mx => match ev C s.env x, idxO C s.env lo, idxO C s.env hi, idxO C s.env mx with
    | some v, some lo, some hi, some mx => sliceV C s.bxs t v lo hi mx
    | _, _, _, _ => none
  | .fieldAddr t x f => match ev C s.env x with
    | some a => fieldAddrV C t a f
    | none => none
  | .field t x f => match ev C s.env x with
    | some a => fieldV C t a f
    | none => none
  | .indexAddr t x i => match ev C s.env x, ev C s.env i with
    | some a, some i => indexAddrV C s.bxs t a i
    | _, _ => none
  | .index t x i => match ev C s.env x, ev C s.env i with
    | some a, some i => indexV C t a i
    | _, _ => none
  | .extract x i => match ev C s.env x with
    | some (.tup vs) => match vs[i]? with
      | some v => ok v
      | none => none
    | _ => none
  | .call { callee := .builtin b, args, argTypes } => match evL C s.env args.toList with
    | some vs => match b, argTypes.toList, vs with
      | .len, [t], [x] => lenV C s.bxs t x
      | .append, [t, yt], [x, y] => match appendV C s.bxs key t x y yt with
        | some (c, v, .add k b) => keyFree s.bxs key (some (c, v, .add k b))
        | r => r
      | .copy, [t, _], [x, y] => copyV C s.bxs t x y
      | .min, _, vs => match minV vs with
        | some v => ok v
        | none => none
      | .max, _, vs => match maxV vs with
        | some v => ok v
        | none => none
      | _, _, _ => none
    | none => none
  | _ => none

end Go.V
namespace Go.V

/-! Shapes of states: what a loop's head or an exit knows. -/
inductive Sh where
  | ty (T : Ty)
  | cst (v : AV)

inductive BSh where
  | var (gs : List Sh)
  | row (T : Ty) (fz : Bool)
  /-- the record of a loop over a function -/
  | loop (busy : Bool) (f id : Nat) (env : List (Nat × Sh))

structure Ann where
  env : List (Nat × Sh)
  stk : List (List (Nat × Sh))
  bxs : List (Nat × BSh)

/-- The typed values that a list of shapes holds. -/
@[reducible] def shDen : List Sh → Type
  | [] => Unit
  | .ty T :: l => T.den × shDen l
  | .cst _ :: l => shDen l

@[reducible] def envDen : List (Nat × Sh) → Type
  | [] => Unit
  | (_, .ty T) :: l => T.den × envDen l
  | (_, .cst _) :: l => envDen l

@[reducible] def stkDen : List (List (Nat × Sh)) → Type
  | [] => Unit
  | e :: l => envDen e × stkDen l

@[reducible] def bxsDen : List (Nat × BSh) → Type
  | [] => Unit
  | (_, .var gs) :: l => shDen gs × bxsDen l
  | (_, .row T _) :: l => List T.den × bxsDen l
  | (_, .loop _ _ _ e) :: l => envDen e × bxsDen l

@[reducible] def Ann.den (A : Ann) : Type := envDen A.env × stkDen A.stk × bxsDen A.bxs

def encSh : (l : List Sh) → shDen l → List AV
  | [], _ => []
  | .ty T :: l, x => .val T x.1 :: encSh l x.2
  | .cst v :: l, x => v :: encSh l x

def encEnv : (l : List (Nat × Sh)) → envDen l → Env
  | [], _ => []
  | (n, .ty T) :: l, x => (n, T.av x.1) :: encEnv l x.2
  | (n, .cst v) :: l, x => (n, v) :: encEnv l x

def encStk : (l : List (List (Nat × Sh))) → stkDen l → List Env
  | [], _ => []
  | e :: l, x => encEnv e x.1 :: encStk l x.2

def encBxs : (l : List (Nat × BSh)) → bxsDen l → Bxs
  | [], _ => []
  | (n, .var gs) :: l, x => (n, .var (encSh gs x.1)) :: encBxs l x.2
  | (n, .row T fz) :: l, x => (n, .row T fz x.1) :: encBxs l x.2
  | (n, .loop u f i e) :: l, x => (n, .loop u f i (encEnv e x.1)) :: encBxs l x.2

def Ann.enc (A : Ann) (x : A.den) : St := { env := encEnv A.env x.1, stk := encStk A.stk x.2.1, bxs := encBxs A.bxs x.2.2 }

/-! Equality of constants. -/
def Win.same : Win → Win → Bool
  | .whole, .whole => true
  | _, _ => false

def capSame : AV → AV → Bool
  | .ptr b o [], .ptr c p [] => Nat.beq b c && Nat.beq o p
  | _, _ => false
def capsSame : List AV → List AV → Bool
  | [], [] => true
  | a :: l, b :: m => capSame a b && capsSame l m
  | _, _ => false
def AV.same (a b : AV) : Bool :=
  match a, b with
  | .nils, .nils => true
  | .nilp, .nilp => true
  | .nilf, .nilf => true
  | .nili, .nili => true
  | .junk, .junk => true
  | .ptr b o [], .ptr c p [] => Nat.beq b c && Nat.beq o p
  | .row b .whole, .row c .whole => Nat.beq b c
  | .fn f l, .fn g m => Nat.beq f g && capsSame l m
  | .tup [], .tup [] => true
  | .yld b, .yld c => Nat.beq b c
  | _, _ => false

section
variable {R : Type}

/-- Rows that a value names, frozen. -/
def frzB (bx : Bxs) (b : Nat) : Bxs :=
  match find bx b with
  | some (.row T false l) => setB bx b (.row T true l)
  | _ => bx
mutual
def frz (bx : Bxs) : AV → Bxs
  | .row b _ => frzB bx b
  | .agg gs => frzL bx gs
  | _ => bx
def frzL (bx : Bxs) : List AV → Bxs
  | [] => bx
  | g :: gs => frzL (frz bx g) gs
end

/-! What is known as a typed value is frozen first. -/
def tyVals (env : Env) : List (Nat × Sh) → List AV
  | [] => []
  | (n, .ty _) :: l => match find env n with
    | some v => v :: tyVals env l
    | none => tyVals env l
  | (_, .cst _) :: l => tyVals env l
def tyValsS : List Env → List (List (Nat × Sh)) → List AV
  | e :: s, l :: r => tyVals e l ++ tyValsS s r
  | _, _ => []
def tyGs : List Sh → List AV → List AV
  | .ty _ :: l, v :: vs => v :: tyGs l vs
  | .cst _ :: l, _ :: vs => tyGs l vs
  | _, _ => []
def tyValsB (bx : Bxs) : List (Nat × BSh) → List AV
  | [] => []
  | (n, .var gs) :: l => match find bx n with
    | some (.var vs) => tyGs gs vs ++ tyValsB bx l
    | _ => tyValsB bx l
  | (_, .row _ _) :: l => tyValsB bx l
  | (n, .loop _ _ _ e) :: l => match find bx n with
    | some (.loop _ _ _ env) => tyVals env e ++ tyValsB bx l
    | _ => tyValsB bx l

/-- A group as a typed value. -/
def dec1 (bx : Bxs) (T : Ty) (v : AV) (K : T.den → Option R) : Option R :=
  match conv bx T v with
  | some x => K x
  | none => none

def decSh (bx : Bxs) : (l : List Sh) → List AV → (shDen l → Option R) → Option R
  | [], [], K => K ()
  | .ty T :: l, v :: vs, K => dec1 bx T v fun x => decSh bx l vs fun y => K (x, y)
  | .cst c :: l, v :: vs, K => bif v.same c then decSh bx l vs K else none
  | _, _, _ => none

def decEnv (bx : Bxs) (env : Env) : (l : List (Nat × Sh)) → (envDen l → Option R) → Option R
  | [], K => K ()
  | (n, .ty T) :: l, K => match find env n with
    | some v => match norm bx T v with
      | some x => decEnv bx env l fun y => K (x, y)
      | none => none
    | none => none
  | (n, .cst c) :: l, K => match find env n with
    | some v => bif v.same c then decEnv bx env l K else none
    | none => none

def decStk (bx : Bxs) : List Env → (l : List (List (Nat × Sh))) → (stkDen l → Option R) → Option R
  | [], [], K => K ()
  | env :: stk, e :: l, K => decEnv bx env e fun x => decStk bx stk l fun y => K (x, y)
  | _, _, _ => none

def decRow (T : Ty) (fz : Bool) (b : Box) (K : List T.den → Option R) : Option R :=
  match b with
  | .row S f l => if h : S = T then (bif (f == fz) then K (h ▸ l) else none) else none
  | _ => none

def decBxs (bx : Bxs) : (l : List (Nat × BSh)) → (bxsDen l → Option R) → Option R
  | [], K => K ()
  | (n, .var gs) :: l, K => match find bx n with
    | some (.var vs) => decSh bx gs vs fun x => decBxs bx l fun y => K (x, y)
    | _ => none
  | (n, .row T fz) :: l, K => match find bx n with
    | some b => decRow T fz b fun x => decBxs bx l fun y => K (x, y)
    | none => none
  | (n, .loop u f i e) :: l, K => match find bx n with
    | some (.loop u' f' i' env) => bif (u' == u) && (Nat.beq f' f && Nat.beq i' i) then decEnv bx env e fun x => decBxs bx l fun y => K (x, y) else none
    | _ => none

def Ann.dec (A : Ann) (s : St) (K : A.den → Option R) : Option R :=
  let bx := frzL s.bxs (tyVals s.env A.env ++ tyValsS s.stk A.stk ++ tyValsB s.bxs A.bxs)
  decEnv bx s.env A.env fun x => decStk bx s.stk A.stk fun y => decBxs bx A.bxs fun z => K (x, y, z)
end

/-! What is laid at a loop's entry: a nil slice, or one whose capacity is its length, becomes a row. -/
inductive Thaw where
  /-- a slot, the row's number, the elements' type -/
  | slot (n b : Nat) (T : Ty)
  /-- a box, the place of the group in it -/
  | cell (k i b : Nat) (T : Ty)

def thawV (b : Nat) (T : Ty) : AV → Option Box
  | .nils => some (.row T false [])
  | .full S l => if h : S = T then some (.row T true (h ▸ l)) else none
  | _ => none

def thaw1 (s : St) : Thaw → Option St
  | .slot n b T => match find s.env n with
    | some (.row c w) => bif Nat.beq c b then (match w with | .whole => some s | _ => none) else none
    | some v => match thawV b T v, find s.bxs b with
      | some bx, none => some { s with env := (n, .row b .whole) :: s.env, bxs := (b, bx) :: s.bxs }
      | _, _ => none
    | none => none
  | .cell k i b T => match find s.bxs k with
    | some (.var gs) => match gs[i]? with
      | some (.row c w) => bif Nat.beq c b then (match w with | .whole => some s | _ => none) else none
      | some v => match thawV b T v, find s.bxs b with
        | some bx, none => some { s with bxs := (b, bx) :: setB s.bxs k (.var (gs.set i (.row b .whole))) }
        | _, _ => none
      | none => none
    | _ => none

def thawAll : List Thaw → St → Option St
  | [], s => some s
  | t :: l, s => match thaw1 s t with
    | some s => thawAll l s
    | none => none

/-- The ways out of a piece of code. -/
inductive Ex where
  | normal | exit (id : Nat) | ret
  deriving DecidableEq

/-- What a loop's summary gives: which way out, and the typed values there. -/
@[reducible] def outDen : List (Ex × Ann) → Type
  | [] => Empty
  | [(_, A)] => A.den
  | (_, A) :: l => A.den ⊕ outDen l

section
variable {R : Type}
def outK (K : Ex → St → Option R) : (l : List (Ex × Ann)) → outDen l → Option R
  | [], o => nomatch o
  | [(e, A)], o => K e (A.enc o)
  | (e, A) :: b :: l, o => Sum.elim (fun x => K e (A.enc x)) (fun y => outK K (b :: l) y) o
end

/-- The values at a way out, found among those that a summary has. -/
def decOut (e : Ex) (s : St) : (l : List (Ex × Ann)) → Option (outDen l)
  | [] => none
  | [(f, A)] => if e = f then A.dec s some else none
  | (f, A) :: b :: l => if e = f then A.dec s (fun x => some (.inl x)) else (decOut e s (b :: l)).map .inr

structure LSpec where
  thaws : List Thaw
  head : Ann
  outs : List (Ex × Ann)
  fn : head.den → Option (outDen outs)

/-- A contract of a pure function: typed arguments, typed results. -/
@[reducible] def tysDen : List Ty → Type
  | [] => Unit
  | T :: l => T.den × tysDen l

/-- The arguments of a function. -/
def tysAV : (l : List Ty) → tysDen l → List AV
  | [], _ => []
  | T :: l, x => T.av x.1 :: tysAV l x.2

/-- Its results. -/
def resAV : (l : List Ty) → tysDen l → AV
  | [T], x => T.av x.1
  | l, x => .tup (tysAV l x)

structure PSpec where
  args : List Ty
  res : List Ty
  fn : tysDen args → Option (tysDen res)

def scalar : Ty → Bool
  | .int _ | .bool | .str | .unit => true
  | .sl _ => false
  | .pair a b => scalar a && scalar b
  | .arr _ e => scalar e

def frzKeys : Bxs → Bxs → Bxs
  | [], bx => bx
  | (k, _) :: l, bx => frzKeys l (frzB bx k)
def frzAll (bx : Bxs) : Bxs := frzKeys bx bx

section
variable {R : Type}
def argsK (bx : Bxs) : (l : List Ty) → List AV → (tysDen l → Option R) → Option R
  | [], [], K => K ()
  | T :: l, v :: vs, K => match norm bx T v with
    | some x => argsK bx l vs fun y => K (x, y)
    | none => none
  | _, _, _ => none
end

/-- Where a loop stands: how many calls in place may still come, the place of the call, the function, the region that the loop begins with. -/
structure Key where
  d : Nat
  base : Nat
  f : Nat
  id : Nat

def Key.beq (a b : Key) : Bool := Nat.beq a.d b.d && Nat.beq a.base b.base && Nat.beq a.f b.f && Nat.beq a.id b.id

/-- A contract of a function that is handed boxes. -/
structure CSpec where
  thaws : List Thaw
  args : List (Nat × Sh)
  ins : List (Nat × BSh)
  res : List Sh
  outs : List (Nat × BSh)
  fn : envDen args × bxsDen ins → Option (shDen res × bxsDen outs)

/-- A contract of a function that returns one slice, of its own. -/
structure RSpec where
  args : List Ty
  T : Ty
  fz : Bool
  fn : tysDen args → Option (List T.den)

structure Env0 where
  C : Cfg
  P : List (Nat × PSpec)
  L : List (Key × LSpec)
  F : List (Nat × Func)
  S : List (Nat × CSpec) := []
  R : List (Nat × RSpec) := []

def findL {α : Type} : List (Key × α) → Key → Option α
  | [], _ => none
  | (k, v) :: l, n => bif k.beq n then some v else findL l n

def firstRegion : Code → Nat
  | .region id _ _ => id
  | .seq a _ => firstRegion a
  | .block _ c => firstRegion c
  | .loop c => firstRegion c
  | .scope c => firstRegion c
  | _ => 0

/-- The number of a loop over a function. -/
def rid (a b : Code) : Nat :=
  match firstRegion a with
  | 0 => firstRegion b
  | n => n

/-- Where its record lies. -/
def loopKey (base : Nat) (a b : Code) : Nat := base + 900 + rid a b % 100

/-- A loop over a function: its variables, their assignment, its body; how many slots its frame has. -/
structure LCode where
  ps : List Nat
  assign : Code
  body : Code
  n : Nat

/-- The loops over functions of a function. -/
def rangesOf (n : Nat) : Code → List (Nat × LCode)
  | .seq a b => rangesOf n a ++ rangesOf n b
  | .cond _ a b => rangesOf n a ++ rangesOf n b
  | .block _ c => rangesOf n c
  | .loop c => rangesOf n c
  | .rangeFunc _ ps a b => [(rid a b, ⟨ps.toList, a, b, n⟩)]
  | _ => []

def noRange : Code → Bool
  | .seq a b => noRange a && noRange b
  | .cond _ a b => noRange a && noRange b
  | .block _ c => noRange c
  | .loop c => noRange c
  | .rangeFunc .. => false
  | _ => true

/-- What is called in place: a function, or the body of a loop over a function. -/
inductive Callee where
  | fn (f : Nat)
  | yld (b : Nat)

def putE (d : Option Tmp) (v : AV) (env : Env) : Env :=
  match d with
  | some d => (d, v) :: env
  | none => env

/-- The values of a function's results. -/
def resOf (C : Cfg) (s : St) : List ResultVar → Option (List AV)
  | [] => some []
  | .tmp t :: l => match find s.env t with
    | some v => bif v.okGs then (resOf C s l).map (v :: ·) else none
    | none => none
  | .cell a t :: l => match find s.env a with
    | some p => match loadV C s.bxs t p with
      | some (_, v, _) => bif v.okGs then (resOf C s l).map (v :: ·) else none
      | none => none
    | none => none

def tup1 : List AV → AV
  | [v] => v
  | l => .tup l

def params : Nat → List AV → Env
  | _, [] => []
  | n, v :: l => (n, v) :: params (n + 1) l

def encV : (l : List Sh) → shDen l → List AV
  | [], _ => []
  | .ty T :: l, x => T.av x.1 :: encV l x.2
  | .cst v :: l, x => v :: encV l x

def rowKeys : List (Nat × BSh) → List Nat
  | [] => []
  | (k, .row _ _) :: l => k :: rowKeys l
  | (_, .var _) :: l => rowKeys l
  | (_, .loop _ _ _ _) :: l => rowKeys l

/-- Pointers to the variables that are handed down. -/
def varPtrs : Nat → List (Nat × BSh) → Env
  | _, [] => []
  | n, (k, .var _) :: l => (n, .ptr k 0 []) :: varPtrs (n + 1) l
  | n, (_, .row _ _) :: l => varPtrs n l
  | n, (_, .loop _ _ _ _) :: l => varPtrs n l

def staleAll : List Nat → St → St
  | [], s => s
  | k :: l, s => staleAll l { env := staleE k s.env, stk := staleS k s.stk, bxs := staleB k s.bxs }

def setAll : Bxs → Bxs → Bxs
  | [], b => b
  | (k, x) :: l, b => setB (setAll l b) k x

section
variable {R : Type} (E : Env0)

/-- A call of a function with a contract. -/
def callP (p : PSpec) (args : List AV) (s : St) (K : AV → St → Option R) : Option R :=
  let bx := bif p.res.all scalar then frzAll s.bxs else frzL s.bxs args
  argsK bx p.args args fun x => (p.fn x).bind fun y => K (resAV p.res y) (bif p.res.all scalar then s else { s with bxs := frzL s.bxs args })

/-- A call of a function that returns a slice of its own. -/
def callR (p : RSpec) (key : Nat) (args : List AV) (s : St) (K : AV → St → Option R) : Option R :=
  match find (frzL s.bxs args) key with
  | none => argsK (frzL s.bxs args) p.args args fun x => (p.fn x).bind fun l => K (.row key .whole) { s with bxs := (key, .row p.T p.fz l) :: frzL s.bxs args }
  | some _ => none

/-- A call of a function that is handed boxes. -/
def callS (c : CSpec) (args : List AV) (s : St) (K : AV → St → Option R) : Option R :=
  match thawAll c.thaws { env := params 0 args, stk := s.env :: s.stk, bxs := s.bxs } with
  | some s1 =>
    let bx := frzL s1.bxs (tyVals s1.env c.args ++ tyValsB s1.bxs c.ins)
    decEnv bx s1.env c.args fun xa => decBxs bx c.ins fun xb => (c.fn (xa, xb)).bind fun y => match s1.stk with
      | env :: stk =>
        let s2 := staleAll (rowKeys c.ins) { env := env, stk := stk, bxs := bx }
        K (tup1 (encV c.res y.1)) { s2 with bxs := setAll (encBxs c.outs y.2) s2.bxs }
      | [] => none
  | none => none

variable (inl : Nat → Callee → List AV → St → (AV → St → Option R) → Option R)

/-- One operation that is carried out. -/
def exec1 (base : Nat) (o : Oper) (s : St) (K : AV → St → Option R) : Option R :=
  match o.op with
  | .pick c a b => match ev E.C s.env c with
    | some (.val .bool t) => bif t then (match ev E.C s.env a with | some v => K v s | none => none) else (match ev E.C s.env b with | some v => K v s | none => none)
    | _ => none
  | .call { callee := .value f, args, .. } => match ev E.C s.env f, evL E.C s.env args.toList with
    | some (.fn f caps), some vs => match caps, find E.P f with
      | [], some p => callP p vs s K
      | caps, _ => match caps, find E.R f with
        | [], some p => callR p (base + o.dst.getD 0) vs s K
        | caps, _ => match find E.S f with
          | some c => callS c (vs ++ caps) s K
          | none => inl (base + o.dst.getD 0) (.fn f) (vs ++ caps) s K
    | some (.yld b), some vs => inl (base + o.dst.getD 0) (.yld b) vs s K
    | _, _ => none
  | _ => match execA E.C base o s with
    | some (c, v, e) => bif c then K v (e.apply s) else none
    | none => none

def runOps (base : Nat) (ops : Array Oper) : List Oper → St → (St → Option R) → Option R
  | [], s, K => K s
  | o :: rest, s, K => match o.guard with
    | none => exec1 E inl base o s fun v s => runOps base ops rest { s with env := putE o.dst v s.env } K
    | some (j, want) => match (ops[j]?).bind (·.dst) with
      | some d => match find s.env d with
        | some (.val .bool b) =>
          bif b then
            (bif want then exec1 E inl base o { s with env := (d, .val .bool true) :: s.env } fun v s => runOps base ops rest { s with env := putE o.dst v s.env } K
             else runOps base ops rest { s with env := putE o.dst (.tup []) ((d, .val .bool true) :: s.env) } K)
          else
            (bif want then runOps base ops rest { s with env := putE o.dst (.tup []) ((d, .val .bool false) :: s.env) } K
             else exec1 E inl base o { s with env := (d, .val .bool false) :: s.env } fun v s => runOps base ops rest { s with env := putE o.dst v s.env } K)
        | some (.tup []) => runOps base ops rest { s with env := putE o.dst (.tup []) s.env } K
        | _ => none
      | none => none

/-! Regions whose order is drawn. -/
def deps (o : Oper) : List Nat := (o.after.toList.filter (Region.binds .any)).map (·.on)

/-- What must be done ahead of each operation, as masks. -/
def maskOf (acc : List Nat) (l : List Nat) : Nat := l.foldl (fun m j => m ||| (1 <<< j) ||| acc.getD j 0) 0
def masks : List Oper → List Nat → List Nat
  | [], acc => acc
  | o :: l, acc => masks l (acc ++ [maskOf acc (deps o)])

/-- An operation that may change the boxes. -/
def isWriter (o : Oper) : Bool :=
  match o.op with
  | .move _ | .assign _ | .pick .. | .build .. | .buildSlice .. | .load .. | .nilCheck _ | .binOp .. | .unOp .. | .convert .. | .fieldAddr .. | .field .. | .indexAddr .. | .index .. | .slice .. | .extract .. | .makeFunc .. => false
  | .call { callee := .builtin .len, .. } | .call { callee := .builtin .min, .. } | .call { callee := .builtin .max, .. } => false
  | .call { callee := .value _, .. } => false
  | _ => true

/-- The slots that an operation looks at. -/
def looks (ops : Array Oper) (o : Oper) : List Nat :=
  (o.op.operands.toList.filterMap fun | .tmp t => some t | _ => none) ++
  (match o.guard with
   | some (g, _) => ((ops[g]?).bind (·.dst)).toList
   | none => [])

/-- Is one ahead of the other, whatever the order? -/
def ahead (ms : List Nat) (i j : Nat) : Bool := Nat.testBit (ms.getD j 0) i

/-- Is each of the others ahead of it, or behind it? -/
def strictAt (ops : Array Oper) (ms : List Nat) (i : Nat) : Bool := (List.range ops.size).all fun j => Nat.beq i j || ahead ms i j || ahead ms j i

/-- An operation that may change one box, whatever the others do meanwhile. -/
def lightKind (o : Oper) : Bool := o.guard.isNone && match o.op with
  | .alloc _ | .store .. => true
  | .call { callee := .builtin .append, .. } => true
  | _ => false

/-- An operation that all others are ahead of, or behind. -/
def opq (ops : Array Oper) (ms : List Nat) (i : Nat) (o : Oper) : Bool := isWriter o && !(lightKind o && !strictAt ops ms i)

def pairOk (ops : Array Oper) (ms : List Nat) (i : Nat) (x : Oper) (j : Nat) (y : Oper) : Bool :=
  -- i < j
  (ahead ms i j || (!opq ops ms i x && !opq ops ms j y &&
    (match x.dst with | some d => !(looks ops y).contains d | none => true) && (match y.dst with | some d => !(looks ops x).contains d | none => true))) &&
  (match x.dst, y.dst with | some d, some e => !Nat.beq d e | _, _ => true)

def pairsOk (ops : Array Oper) (ms : List Nat) (i : Nat) (x : Oper) : Nat → List Oper → Bool
  | _, [] => true
  | j, y :: l => pairOk ops ms i x j y && pairsOk ops ms i x (j + 1) l

def allOk (ops : Array Oper) (ms : List Nat) : Nat → List Oper → Bool
  | _, [] => true
  | i, x :: l => (deps x).all (fun j => Nat.blt j i) && pairsOk ops ms i x (i + 1) l && allOk ops ms (i + 1) l

def drawOk (ops : Array Oper) : Bool := allOk ops (masks ops.toList []) 0 ops.toList

def restr (env : Env) : List Nat → Env
  | [] => []
  | t :: l => match find env t with
    | some v => (t, v) :: restr env l
    | none => restr env l

/-- An operation that leaves the boxes alone. -/
def exec0 (base : Nat) (o : Oper) (s : St) (K : AV → Option R) : Option R :=
  match o.op with
  | .pick c a b => match ev E.C s.env c with
    | some (.val .bool t) => bif t then (match ev E.C s.env a with | some v => K v | none => none) else (match ev E.C s.env b with | some v => K v | none => none)
    | _ => none
  | .call { callee := .value f, args, .. } => match ev E.C s.env f, evL E.C s.env args.toList with
    | some (.fn f []), some vs => match find E.P f with
      | some p => argsK (bif p.res.all scalar then frzAll s.bxs else s.bxs) p.args vs fun x => (p.fn x).bind fun y => K (resAV p.res y)
      | none => none
    | _, _ => none
  | _ => match execA E.C base o s with
    | some (c, v, .none) => bif c then K v else none
    | _ => none

/-- An operation with its guard, in a state that holds what it looks at. -/
def execG (base : Nat) (ops : Array Oper) (o : Oper) (s : St) (K : AV → St → Option R) : Option R :=
  match o.guard with
  | none => exec0 E base o { s with env := restr s.env (looks ops o) } fun v => K v s
  | some (j, want) => match (ops[j]?).bind (·.dst) with
    | some d => match find s.env d with
      | some (.val .bool b) =>
        bif b then (bif want then exec0 E base o { s with env := restr s.env (looks ops o) } fun v => K v { s with env := (d, .val .bool true) :: s.env } else K (.tup []) { s with env := (d, .val .bool true) :: s.env })
        else (bif want then K (.tup []) { s with env := (d, .val .bool false) :: s.env } else exec0 E base o { s with env := restr s.env (looks ops o) } fun v => K v { s with env := (d, .val .bool false) :: s.env })
      | some (.tup []) => K (.tup []) s
      | _ => none
    | none => none

/-- The box that an effect changes. -/
def Eff.kb : Eff → Option (Nat × Box)
  | .add k b | .upd k b => some (k, b)
  | _ => Option.none

def Eff.lightB : Eff → Bool
  | .app .. => false
  | _ => true

/-- A value without rows, as a slice. -/
def plainY : AV → Bool
  | .nils | .full .. | .val .. => true
  | _ => false
def plainX : AV → Bool
  | .nils | .full .. => true
  | _ => false

/-- The boxes that an operation looks at, where that is known. -/
def rdOf (C : Cfg) (base : Nat) (o : Oper) (env : Env) : Option (List Nat) :=
  match o.guard with
  | some _ => none
  | none => match o.op with
    | .move _ | .assign _ | .fieldAddr .. => some []
    | .binOp .. | .unOp .. | .extract .. | .field .. | .index .. | .nilCheck _ => some []
    | .build t _ => match C.under t with
      | .st _ => some []
      | _ => none
    | .buildSlice _ _ ps => match ps.toList with
      | [] => some []
      | _ => none
    | .alloc _ => some [base + o.dst.getD 0]
    | .load _ a => match ev C env a with
      | some (.ptr b _ _) => some [b]
      | some (.rptr b _ _) => some [b]
      | some (.eptr _) => some []
      | _ => none
    | .call { callee := .builtin .append, args, .. } => match evL C env args.toList with
      | some [x, y] => bif plainX x && plainY y then some [base + o.dst.getD 0] else none
      | _ => none
    | _ => none

/-- What is noted of an operation of a stretch: its number, what it looks at, what it changes. -/
structure Note where
  i : Nat
  rd : Option (List Nat)
  ky : Option Nat

def apart (ms : List Nat) (a : Note) (k : Nat) (b : Note) : Bool :=
  Nat.beq a.i b.i || ahead ms a.i b.i || ahead ms b.i a.i || ((match b.rd with | some ks => !ks.any (Nat.beq k) | none => false) && (match b.ky with | some j => !Nat.beq j k | none => true))

def logOk (ms : List Nat) (log : List Note) : Bool := log.all fun a => match a.ky with
  | none => true
  | some k => log.all (apart ms a k)

def runDraw (base : Nat) (ops : Array Oper) (ms : List Nat) : List Oper → Nat → List Note → St → (St → Option R) → Option R
  | [], _, log, s, K => bif logOk ms log then K s else none
  | o :: rest, i, log, s, K => bif opq ops ms i o then (bif logOk ms log then runOps E inl base ops [o] s fun s => runDraw base ops ms rest (i + 1) [] s K else none)
    else bif isWriter o then
      match execA E.C base o { s with env := restr s.env (looks ops o) } with
      | some (c, v, e) => bif e.lightB && c then runDraw base ops ms rest (i + 1) (⟨i, rdOf E.C base o (restr s.env (looks ops o)), e.kb.map (·.1)⟩ :: log) { (e.apply s) with env := putE o.dst v s.env } K else none
      | none => none
    else execG E base ops o s fun v s' => runDraw base ops ms rest (i + 1) (⟨i, rdOf E.C base o (restr s.env (looks ops o)), none⟩ :: log) { s' with env := putE o.dst v s'.env } K

def runLoop (l : LSpec) (s : St) (K : Ex → St → Option R) : Option R :=
  match thawAll l.thaws s with
  | some s => l.head.dec s fun x => (l.fn x).bind fun o => outK K l.outs o
  | none => none

/-- The frame that remembers a loop's record. -/
def isYld (env : Env) (b : Nat) : Bool :=
  match find env 0 with
  | some (.yld c) => Nat.beq c b
  | _ => false

def runC (d f base : Nat) : Code → St → (Ex → St → Option R) → Option R
  | .skip, s, K => K .normal s
  | .region _ ops draw, s, K => bif draw then runDraw E inl base ops (masks ops.toList []) ops.toList 0 [] s (fun s => K .normal s) else runOps E inl base ops ops.toList s fun s => K .normal s
  | .seq a b, s, K => runC d f base a s fun e s => match e with
    | .normal => runC d f base b s K
    | e => K e s
  | .cond c a b, s, K => match ev E.C s.env c with
    | some (.val .bool t) => bif t then runC d f base a s K else runC d f base b s K
    | _ => none
  | .block id c, s, K => runC d f base c s fun e s => match e with
    | .exit i => bif Nat.beq i id then K .normal s else K (.exit i) s
    | e => K e s
  | .loop c, s, K => match findL E.L ⟨d, base, f, firstRegion c⟩ with
    | some l => runLoop l s K
    | none => none
  | .exit id, s, K => K (.exit id) s
  | .ret, s, K => K .ret s
  | .rangeFunc q _ a b, s, K => match ev E.C s.env q with
    | some (.fn f' caps) => match find s.bxs (loopKey base a b) with
      | none => inl (loopKey base a b) (.fn f') (.yld (loopKey base a b) :: caps) { env := [(0, .yld (loopKey base a b))], stk := s.env :: s.stk, bxs := (loopKey base a b, .loop false f (rid a b) s.env) :: s.bxs } fun _ s' =>
        match s'.stk, find s'.bxs (loopKey base a b) with
        | env :: stk, some (.loop false _ _ _) => bif isYld s'.env (loopKey base a b) then K .normal { env := env, stk := stk, bxs := setB s'.bxs (loopKey base a b) .dead } else none
        | _, _ => none
      | some _ => none
    | _ => none
  | _, _, _ => none
end

/-- The slots of a loop's variables, filled. -/
def putL : List Nat → List AV → Env → Env
  | p :: ps, v :: vs, env => putL ps vs ((p, v) :: env)
  | _, _, env => env

/-- A call in place. -/
def inlineC {R : Type} (E : Env0) : Nat → Nat → Callee → List AV → St → (AV → St → Option R) → Option R
  | 0, _, _, _, _, _ => none
  | d + 1, base, .fn f, args, s, K => match find E.F f with
    | some fn => match fn.body with
      | some c => runC E (inlineC E d) d f (base * 1000) c { env := params 0 args, stk := s.env :: s.stk, bxs := s.bxs } fun e s' =>
        match e, s'.stk with
        | .exit _, _ => none
        | _, env :: stk => match resOf E.C s' fn.results.toList with
          | some vs => K (tup1 vs) { env := env, stk := stk, bxs := s'.bxs }
          | none => none
        | _, [] => none
      | none => none
    | none => none
  | d + 1, base, .yld b, args, s, K => match find s.bxs b with
    | some (.loop false f id env) => match find E.F f with
      | some fn => match fn.body with
        | some c => match find (rangesOf fn.ntmps c) id with
          | some cd => bif Nat.beq cd.ps.length args.length && (noRange cd.assign && noRange cd.body) then
              runC E (inlineC E d) d f (base * 1000) cd.assign { env := putL cd.ps args env, stk := [(0, .yld b)] :: s.env :: s.stk, bxs := s.bxs } fun e s1 => match e, s1.stk, find s1.bxs b with
                | .normal, e0 :: _, some (.loop false f1 i1 env1) => bif isYld e0 b && (Nat.beq f1 f && Nat.beq i1 id) then
                    runC E (inlineC E d) d f (base * 1000) cd.body { s1 with bxs := setB s1.bxs b (.loop true f id env1) } fun e s2 => match e, s2.stk, find s2.bxs b with
                      | .normal, e1 :: env0 :: stk, some (.loop true f2 i2 env2) => bif isYld e1 b && (Nat.beq f2 f && Nat.beq i2 id) then K (.val .bool true) { env := env0, stk := stk, bxs := setB s2.bxs b (.loop false f id env2) } else none
                      | _, _, _ => none
                  else none
                | _, _, _ => none
            else none
          | none => none
        | none => none
      | none => none
    | _ => none

def depth : Nat := 12

/-- Results as typed values: rows are frozen first. -/
def resK {R : Type} (bx : Bxs) : (l : List Ty) → List AV → (tysDen l → Option R) → Option R
  | [], [], K => K ()
  | T :: l, v :: vs, K => match norm (frzAll bx) T v with
    | some x => resK bx l vs fun y => K (x, y)
    | none => none
  | _, _, _ => none

/-- A whole function, from typed arguments to typed results. -/
def runF (E : Env0) (f : Nat) (fn : Func) (c : Code) (args res : List Ty) (x : tysDen args) : Option (tysDen res) :=
  runC E (inlineC E depth) depth f 0 c { env := params 0 (tysAV args x), stk := [], bxs := [] } fun e s =>
    match e with
    | .exit _ => none
    | _ => match resOf E.C s fn.results.toList with
      | some vs => resK s.bxs res vs some
      | none => none

/-- A slice that is returned, as a row. -/
def resRow (bx : Bxs) (T : Ty) (fz : Bool) : AV → Option (List T.den)
  | .nils => some []
  | .full S l => bif fz then (if h : S = T then some (h ▸ l) else none) else none
  | .row b .whole => match find bx b with
    | some (.row S f l) => bif f == fz then (if h : S = T then some (h ▸ l) else none) else none
    | _ => none
  | _ => none

/-- A function that returns a slice of its own. -/
def runR (E : Env0) (f : Nat) (fn : Func) (c : Code) (vs : List AV) (T : Ty) (fz : Bool) : Option (List T.den) :=
  runC E (inlineC E depth) depth f 0 c { env := params 0 vs, stk := [], bxs := [] } fun e s =>
    match e with
    | .exit _ => none
    | _ => match resOf E.C s fn.results.toList with
      | some [v] => resRow (bif fz then frzL s.bxs [v] else s.bxs) T fz v
      | _ => none

section
variable {R : Type}
def decV (bx : Bxs) : (l : List Sh) → List AV → (shDen l → Option R) → Option R
  | [], [], K => K ()
  | .ty T :: l, v :: vs, K => match norm bx T v with
    | some x => decV bx l vs fun y => K (x, y)
    | none => none
  | .cst c :: l, v :: vs, K => bif v.same c then decV bx l vs K else none
  | _, _, _ => none
end

/-- The pointers are still there. -/
def ptrsOk (env : Env) : Env → Bool
  | [] => true
  | (n, v) :: l => (match find env n with | some u => u.same v | none => false) && ptrsOk env l

/-- A function that is handed boxes. -/
def runS (E : Env0) (f : Nat) (fn : Func) (c : Code) (p : CSpec) (x : envDen p.args × bxsDen p.ins) : Option (shDen p.res × bxsDen p.outs) :=
  runC E (inlineC E depth) depth f 0 c { env := encEnv p.args x.1, stk := [varPtrs 0 p.ins], bxs := encBxs p.ins x.2 } fun e s =>
    match e with
    | .exit _ => none
    | _ => match resOf E.C s fn.results.toList with
      | some vs =>
        let bx := frzL s.bxs (tyGs p.res vs ++ tyValsB s.bxs p.outs)
        bif (match s.stk with | [e] => ptrsOk e (varPtrs 0 p.ins) | _ => false) then decV bx p.res vs fun ya => decBxs bx p.outs fun yb => some (ya, yb) else none
      | none => none

/-- One round of a loop. -/
def runB (E : Env0) (d f base : Nat) (c : Code) (l : LSpec) (again : l.head.den → Option (outDen l.outs)) (x : l.head.den) : Option (outDen l.outs) :=
  runC E (inlineC E d) d f base c (l.head.enc x) fun e s =>
    match e with
    | .normal => l.head.dec s again
    | e => decOut e s l.outs

/-- The loops of a function. -/
def loopsOf : Code → List Code
  | .seq a b => loopsOf a ++ loopsOf b
  | .cond _ a b => loopsOf a ++ loopsOf b
  | .block _ c => loopsOf c
  | .loop c => c :: loopsOf c
  | .rangeFunc _ _ a b => loopsOf a ++ loopsOf b
  | _ => []

def findLoop : List Code → Nat → Code
  | [], _ => .skip
  | c :: l, id => bif Nat.beq (firstRegion c) id then c else findLoop l id

/-- The body of the loop that begins with a region. -/
def loopAt (c : Code) (id : Nat) : Code := findLoop (loopsOf c) id

/-- No two loops begin with the same region. -/
def idsOk : List Nat → Bool
  | [] => true
  | i :: l => !l.contains i && idsOk l

def dstOk (n : Nat) (o : Oper) : Bool :=
  match o.dst with
  | some d => Nat.blt d n
  | none => true

/-- The slots that are written are slots of the frame. -/
def dstsOk (n : Nat) : Code → Bool
  | .region _ ops _ => ops.toList.all (dstOk n)
  | .seq a b => dstsOk n a && dstsOk n b
  | .cond _ a b => dstsOk n a && dstsOk n b
  | .block _ c => dstsOk n c
  | .loop c => dstsOk n c
  | .rangeFunc _ ps a b => ps.toList.all (fun p => Nat.blt p n) && (dstsOk n a && dstsOk n b)
  | _ => true

/-- Regions whose order is drawn are such that the order does not matter. -/
def drawsOk : Code → Bool
  | .region _ ops draw => !draw || drawOk ops
  | .seq a b => drawsOk a && drawsOk b
  | .cond _ a b => drawsOk a && drawsOk b
  | .block _ c => drawsOk c
  | .loop c => drawsOk c
  | .rangeFunc _ _ a b => drawsOk a && drawsOk b
  | _ => true

def funOk (fn : Func) : Bool :=
  match fn.body with
  | some c => (dstsOk fn.ntmps c && drawsOk c) && idsOk ((loopsOf c).map firstRegion) && idsOk ((rangesOf fn.ntmps c).map (·.1)) && decide (fn.params.size + fn.nfree ≤ fn.ntmps) && !(fn.name == "runtime.NumGoroutine")
  | none => false

end Go.V
namespace Go.V

/-- The loops over functions that a program has, by function and number. -/
class Codes where
  cd : Nat → Nat → Option LCode

variable [Codes]

/-- Where a box lies. -/
structure Gb where
  isRow : Bool
  own : Bool
  blk : Option Nat
  off : Nat
  len : Nat
  cap : Nat
  sz : Nat

/-- What is kept of memory: cells that never turn again, and where the boxes lie. -/
structure Gh where
  fz : Nat → Nat → Option Value
  bx : Nat → Option Gb

def Elems {α : Type} (R : α → List Value → Prop) : List α → List Value → Prop
  | [], cs => cs = []
  | x :: l, cs => ∃ c1 c2, cs = c1 ++ c2 ∧ R x c1 ∧ Elems R l c2

def Fz (fz : Nat → Nat → Option Value) (blk off : Nat) (cs : List Value) : Prop := ∀ j v, cs[j]? = some v → fz blk (off + j) = some v

def SlR {α : Type} (R : α → List Value → Prop) (fz : Nat → Nat → Option Value) (l : List α) (v : Value) : Prop :=
  (l = [] ∧ v = .slice none 0 0) ∨
  ∃ blk off cap cs, v = .slice (some ⟨blk, off, none⟩) l.length cap ∧ l.length ≤ cap ∧ Elems R l cs ∧ Fz fz blk off cs

def CR (fz : Nat → Nat → Option Value) : (T : Ty) → T.den → List Value → Prop
  | .int k, x, cs => cs = [.int k x]
  | .bool, x, cs => cs = [.bool x]
  | .str, x, cs => cs = [.string x]
  | .sl e, l, cs => ∃ v, cs = [v] ∧ SlR (CR fz e) fz l v
  | .unit, _, cs => cs = []
  | .pair a b, x, cs => ∃ c1 c2, cs = c1 ++ c2 ∧ CR fz a x.1 c1 ∧ CR fz b x.2 c2
  | .arr n e, l, cs => l.length = n ∧ Elems (CR fz e) l cs

def stepsOff : List Stp → Nat
  | [] => 0
  | s :: p => s.i.toNat * s.sz + s.o + stepsOff p

def PsR (fz : Nat → Nat → Option Value) : List AV → List Value → Prop
  | [], cs => cs = []
  | .val T x :: gs, cs => ∃ c1 c2, cs = c1 ++ c2 ∧ CR fz T x c1 ∧ PsR fz gs c2
  | _ :: _, _ => False

/-- A captured variable's address. -/
def CapR (g : Gh) (v : AV) (c : Value) : Prop :=
  match v with
  | .ptr b 0 [] => ∃ gb blk, g.bx b = some gb ∧ gb.isRow = false ∧ gb.blk = some blk ∧ c = .pointer (some ⟨blk, 0, none⟩)
  | _ => False

def CapsR (g : Gh) : List AV → List Value → Prop
  | [], [] => True
  | a :: l, v :: vs => CapR g a v ∧ CapsR g l vs
  | _, _ => False

/-- A row's slice value, through a window. -/
def WinR (gb : Gb) (w : Win) (v : Value) : Prop :=
  match w, gb.blk with
  | .whole, none => v = .slice none 0 0 ∧ gb.len = 0
  | .whole, some blk => v = .slice (some ⟨blk, gb.off, none⟩) gb.len gb.cap
  | .part off n full, some blk => off + n ≤ gb.len ∧ ∃ a c, v = .slice (some a) n c ∧ a.spot = none ∧ n ≤ c ∧ (full = true → c = n) ∧ off + c ≤ gb.cap ∧ (c = 0 ∨ a = ⟨blk, gb.off + off * gb.sz, none⟩)
  | .part off n _, none => off = 0 ∧ n = 0 ∧ gb.len = 0 ∧ v = .slice none 0 0

/-- One group and its cells. -/
def GR (g : Gh) (v : AV) (cs : List Value) : Prop :=
  match v with
  | .val T x => CR g.fz T x cs
  | .full T l => ∃ blk off cs', cs = [.slice (some ⟨blk, off, none⟩) l.length l.length] ∧ Elems (CR g.fz T) l cs' ∧ Fz g.fz blk off cs'
  | .nn T l => ∃ blk off cap cs', cs = [.slice (some ⟨blk, off, none⟩) l.length cap] ∧ l.length ≤ cap ∧ Elems (CR g.fz T) l cs' ∧ Fz g.fz blk off cs'
  | .nils => cs = [.slice none 0 0]
  | .nilp => cs = [.pointer none]
  | .nilf => cs = [.nilFunc]
  | .nili => cs = [.nilIface]
  | .ptr b off p => ∃ gb blk, g.bx b = some gb ∧ gb.isRow = false ∧ gb.blk = some blk ∧ (∀ s ∈ p, 0 ≤ s.i ∧ s.i < s.n) ∧ cs = [.pointer (some ⟨blk, off + stepsOff p, none⟩)]
  | .rptr b i o => ∃ gb blk, g.bx b = some gb ∧ gb.isRow = true ∧ gb.blk = some blk ∧ 0 ≤ i ∧ i < gb.len ∧ cs = [.pointer (some ⟨blk, gb.off + i.toNat * gb.sz + o, none⟩)]
  | .eptr gs => ∃ blk off cs', cs = [.pointer (some ⟨blk, off, none⟩)] ∧ PsR g.fz gs cs' ∧ Fz g.fz blk off cs'
  | .row b w => ∃ gb v, g.bx b = some gb ∧ gb.isRow = true ∧ cs = [v] ∧ WinR gb w v
  | .vsl b off n lo len => ∃ gb blk cap, g.bx b = some gb ∧ gb.isRow = false ∧ gb.blk = some blk ∧ lo + len ≤ n ∧ len ≤ cap ∧ ∃ a, cs = [.slice (some a) len cap] ∧ a.spot = none ∧ (cap = 0 ∨ a = ⟨blk, off + lo, none⟩)
  | .fn f caps => ∃ vs, cs = [.func (.func f) #[] vs] ∧ CapsR g caps vs.toList
  | .yld b => ∃ gb l, g.bx b = some gb ∧ gb.isRow = false ∧ gb.blk = some l ∧ cs = [.func (.yield l) #[] #[]]
  | .iface t v => ∃ c, cs = [.iface t c] ∧ match v with
    | .val (.int k) x => c = .int k x
    | .val .str x => c = .string x
    | .agg [] => c = .agg #[]
    | _ => False
  | .junk => ∃ v, cs = [v] ∧ v.oneCell' = true
  | .agg _ | .tup _ => False

def GsR (g : Gh) : List AV → List Value → Prop
  | [], cs => cs = []
  | v :: gs, cs => ∃ c1 c2, cs = c1 ++ c2 ∧ GR g v c1 ∧ GsR g gs c2

/-- A value that is no tuple. -/
def VR1 (g : Gh) (v : AV) (c : Value) : Prop :=
  match v with
  | .agg gs => ∃ arr, c = .agg arr ∧ GsR g gs arr.toList
  | .val (.arr n T) l => ∃ arr, c = .agg arr ∧ CR g.fz (.arr n T) l arr.toList
  | .val (.pair _ _) _ | .val .unit _ => False
  | .junk => True
  | v => GR g v [c]

def TsR (g : Gh) : List AV → List Value → Prop
  | [], [] => True
  | a :: l, v :: vs => VR1 g a v ∧ TsR g l vs
  | _, _ => False

def VR (g : Gh) (v : AV) (c : Value) : Prop :=
  match v with
  | .tup vs => ∃ arr, c = .tuple arr ∧ TsR g vs arr.toList
  | v => VR1 g v c

/-- A block's cells, none of them under a mark. -/
def BlkIs (w : World) (blk : Nat) (cells : List Value) : Prop :=
  ∃ elem lo hi, w.heap[blk]? = some (.cells cells.toArray elem (lo, hi)) ∧ ∀ o, o < cells.length → ¬ (lo ≤ o ∧ o < hi)

def BoxR (g : Gh) (b : Box) (gb : Gb) (w : World) : Prop :=
  match b with
  | .loop busy f id env => gb.isRow = false ∧ gb.own = true ∧ ∃ l tm D fn cd, gb.blk = some l ∧ Codes.cd f id = some cd ∧
      w.heap[l]? = some (.loop { state := if busy = true then .busy else .ready, pending := none, fn := fn, tmps := tm, params := cd.ps.toArray, assign := cd.assign, body := cd.body, defers := D }) ∧
      (∀ n v, find env n = some v → VR g v (tm.getD n undef)) ∧ (cd.n ≤ tm.size ∧ ∀ o, g.fz l o = none)
  | .dead => gb.isRow = false ∧ gb.own = true ∧ ∃ l o, gb.blk = some l ∧ w.heap[l]? = some o ∧ ∀ o, g.fz l o = none
  | .var gs => gb.isRow = false ∧ gb.own = true ∧ ∃ blk cells, gb.blk = some blk ∧ BlkIs w blk cells ∧ GsR g gs cells ∧ ∀ o, g.fz blk o = none
  | .row T fz l => gb.isRow = true ∧ gb.sz = T.size ∧ gb.len = l.length ∧ gb.len ≤ gb.cap ∧
    match gb.blk, gb.own with
    | none, _ => l = [] ∧ gb.own = false ∧ gb.cap = 0
    | some blk, false => (fz = true ∨ l = []) ∧ gb.cap = gb.len ∧ ∃ cs, Elems (CR g.fz T) l cs ∧ Fz g.fz blk gb.off cs
    | some blk, true => ∃ cells cs, BlkIs w blk cells ∧ gb.off + gb.cap * T.size ≤ cells.length ∧ Elems (CR g.fz T) l cs ∧
        (∀ j v, cs[j]? = some v → cells[gb.off + j]? = some v) ∧
        (fz = false → ∀ o, g.fz blk o = none) ∧ (fz = true → Fz g.fz blk gb.off cs ∧ ∀ o, gb.off + cs.length ≤ o → g.fz blk o = none)

def owned (g : Gh) (blk : Nat) : Prop := ∃ k gb, g.bx k = some gb ∧ gb.blk = some blk ∧ gb.own = true

structure BxR (g : Gh) (bxs : Bxs) (w : World) : Prop where
  box : ∀ k b, find bxs k = some b → ∃ gb, g.bx k = some gb ∧ BoxR g b gb w
  dom : ∀ k gb, g.bx k = some gb → (find bxs k).isSome = true
  sep : ∀ k j a b blk, k ≠ j → g.bx k = some a → g.bx j = some b → a.blk = some blk → a.own = true → b.blk = some blk → b.own = true → False

/-- The boxes alone. -/
structure BxW (g : Gh) (bxs : Bxs) (w : World) : Prop where
  box : ∀ k b, find bxs k = some b → ∃ gb, g.bx k = some gb ∧ BoxR g b gb w

theorem BxR.w {g : Gh} {bxs : Bxs} {w : World} (h : BxR g bxs w) : BxW g bxs w := ⟨h.box⟩
theorem bxW_nil {g : Gh} {w : World} : BxW g [] w := ⟨fun _ _ h => nomatch h⟩

def FzOK (g : Gh) (w : World) : Prop := ∀ b o v, g.fz b o = some v → w.cell? ⟨b, o, none⟩ = some v

def EnvR (g : Gh) (env : Env) (tm : Array Value) : Prop := ∀ n v, find env n = some v → VR g v (tm.getD n undef)

def StkR (g : Gh) : List Env → List (Array Value) → Prop
  | [], [] => True
  | e :: l, t :: ts => EnvR g e t ∧ StkR g l ts
  | _, _ => False

structure StR (g : Gh) (s : St) (tm : Array Value) (tms : List (Array Value)) (w : World) : Prop where
  env : EnvR g s.env tm
  stk : StkR g s.stk tms
  bxs : BxR g s.bxs w
  fz : FzOK g w

/-- How memory and what is kept of it go on. -/
structure Tr (g : Gh) (w : World) (g' : Gh) (w' : World) : Prop where
  os : w'.os = w.os
  tape : w'.tape = w.tape
  output : w'.output = w.output
  size : w.heap.size ≤ w'.heap.size
  fz : ∀ b o v, g.fz b o = some v → g'.fz b o = some v
  fzNew : ∀ b o, g'.fz b o ≠ none → g.fz b o ≠ none ∨ w.heap.size ≤ b ∨ owned g b
  own : ∀ b, owned g' b → owned g b ∨ w.heap.size ≤ b
  block : ∀ b, b < w.heap.size → ¬ owned g b → w'.heap[b]? = w.heap[b]?

theorem Tr.refl (g : Gh) (w : World) : Tr g w g w :=
  ⟨rfl, rfl, rfl, Nat.le_refl _, fun _ _ _ h => h, fun _ _ h => .inl h, fun _ h => .inl h, fun _ _ _ => rfl⟩

theorem Tr.trans {g g' g'' : Gh} {w w' w'' : World} (h : Tr g w g' w') (k : Tr g' w' g'' w'') : Tr g w g'' w'' where
  os := k.os.trans h.os
  tape := k.tape.trans h.tape
  output := k.output.trans h.output
  size := Nat.le_trans h.size k.size
  fz := fun b o v e => k.fz b o v (h.fz b o v e)
  fzNew := fun b o e => by
    rcases k.fzNew b o e with h1 | h1 | h1
    · exact h.fzNew b o h1
    · exact .inr (.inl (Nat.le_trans h.size h1))
    · rcases h.own b h1 with h2 | h2
      · exact .inr (.inr h2)
      · exact .inr (.inl h2)
  own := fun b e => by
    rcases k.own b e with h1 | h1
    · exact h.own b h1
    · exact .inr (Nat.le_trans h.size h1)
  block := fun b hb ho => by
    have h1 : ¬ owned g' b := fun h2 => by
      rcases h.own b h2 with h3 | h3
      · exact ho h3
      · omega
    exact (k.block b (Nat.lt_of_lt_of_le hb h.size) h1).trans (h.block b hb ho)

/-! ### Cells in a row -/
theorem Elems.length {α : Type} {R : α → List Value → Prop} {n : Nat} (hR : ∀ x cs, R x cs → cs.length = n) : ∀ {l : List α} {cs : List Value}, Elems R l cs → cs.length = l.length * n
  | [], cs, h => by simp [Elems] at h; simp [h]
  | x :: l, cs, h => by
    obtain ⟨c1, c2, rfl, h1, h2⟩ := h
    rw [List.length_append, hR _ _ h1, h2.length hR, List.length_cons, Nat.succ_mul, Nat.add_comm]

theorem Elems.mono {α : Type} {R R' : α → List Value → Prop} (hR : ∀ x cs, R x cs → R' x cs) : ∀ {l : List α} {cs : List Value}, Elems R l cs → Elems R' l cs
  | [], _, h => h
  | _ :: _, _, ⟨c1, c2, e, h1, h2⟩ => ⟨c1, c2, e, hR _ _ h1, h2.mono hR⟩

theorem CR.length {fz : Nat → Nat → Option Value} : ∀ {T : Ty} {x : T.den} {cs : List Value}, CR fz T x cs → cs.length = T.size
  | .int _, _, _, h => by simp only [CR] at h; simp [h, Ty.size]
  | .bool, _, _, h => by simp only [CR] at h; simp [h, Ty.size]
  | .str, _, _, h => by simp only [CR] at h; simp [h, Ty.size]
  | .sl _, _, _, h => by obtain ⟨v, rfl, _⟩ := h; simp [Ty.size]
  | .unit, _, _, h => by simp only [CR] at h; simp [h, Ty.size]
  | .pair a b, x, cs, h => by
    obtain ⟨c1, c2, rfl, h1, h2⟩ := h
    rw [List.length_append, h1.length, h2.length, Ty.size]
  | .arr n e, l, cs, h => by
    obtain ⟨h1, h2⟩ := h
    rw [h2.length (n := e.size) (fun x cs h => h.length), h1, Ty.size]

theorem Fz.mono {fz fz' : Nat → Nat → Option Value} (hf : ∀ b o v, fz b o = some v → fz' b o = some v) {blk off : Nat} {cs : List Value} (h : Fz fz blk off cs) : Fz fz' blk off cs :=
  fun j v e => hf _ _ _ (h j v e)

theorem CR.mono {fz fz' : Nat → Nat → Option Value} (hf : ∀ b o v, fz b o = some v → fz' b o = some v) : ∀ {T : Ty} {x : T.den} {cs : List Value}, CR fz T x cs → CR fz' T x cs
  | .int _, _, _, h => h
  | .bool, _, _, h => h
  | .str, _, _, h => h
  | .sl e, _, _, h => by
    obtain ⟨v, rfl, h⟩ := h
    refine ⟨v, rfl, ?_⟩
    rcases h with h | ⟨blk, off, cap, cs, h1, h2, h3, h4⟩
    · exact .inl h
    · exact .inr ⟨blk, off, cap, cs, h1, h2, h3.mono (fun x cs h => CR.mono hf h), h4.mono hf⟩
  | .unit, _, _, h => h
  | .pair a b, x, cs, h => by
    obtain ⟨c1, c2, rfl, h1, h2⟩ := h
    exact ⟨c1, c2, rfl, CR.mono hf h1, CR.mono hf h2⟩
  | .arr n e, l, cs, h => ⟨h.1, h.2.mono (fun x cs h => CR.mono hf h)⟩

/-- The cells of an element. -/
theorem Elems.get {α : Type} {R : α → List Value → Prop} {n : Nat} (hR : ∀ x cs, R x cs → cs.length = n) : ∀ {l : List α} {cs : List Value}, Elems R l cs → ∀ i (hi : i < l.length),
    ∃ a c b, cs = a ++ (c ++ b) ∧ a.length = i * n ∧ R l[i] c ∧ Elems R (l.take i) a ∧ Elems R (l.drop (i + 1)) b
  | [], _, _, i, hi => by simp at hi
  | x :: l, cs, ⟨c1, c2, e, h1, h2⟩, 0, _ => ⟨[], c1, c2, by simp [e], by simp, h1, rfl, by simpa using h2⟩
  | x :: l, cs, ⟨c1, c2, e, h1, h2⟩, i + 1, hi => by
    obtain ⟨a, c, b, e2, ha, hc, h3, h4⟩ := h2.get hR i (by simpa using hi)
    refine ⟨c1 ++ a, c, b, by simp [e, e2], ?_, by simpa using hc, ⟨c1, a, rfl, h1, h3⟩, by simpa using h4⟩
    rw [List.length_append, hR _ _ h1, ha, Nat.succ_mul, Nat.add_comm]

theorem Elems.append {α : Type} {R : α → List Value → Prop} : ∀ {l m : List α} {a b : List Value}, Elems R l a → Elems R m b → Elems R (l ++ m) (a ++ b)
  | [], m, a, b, h, k => by have : a = [] := h; subst this; exact k
  | x :: l, m, a, b, ⟨c1, c2, e, h1, h2⟩, k => ⟨c1, c2 ++ b, by simp [e], h1, h2.append k⟩

theorem Elems.split {α : Type} {R : α → List Value → Prop} {n : Nat} (hR : ∀ x cs, R x cs → cs.length = n) : ∀ {l : List α} {cs : List Value}, Elems R l cs → ∀ i, i ≤ l.length →
    Elems R (l.take i) (cs.take (i * n)) ∧ Elems R (l.drop i) (cs.drop (i * n))
  | [], cs, h, i, hi => by
    have : cs = [] := h
    subst this
    have : i = 0 := by simpa using hi
    subst this
    simp [Elems]
  | x :: l, cs, h, 0, _ => by simp only [List.take_zero, List.drop_zero, Nat.zero_mul]; exact ⟨rfl, h⟩
  | x :: l, cs, ⟨c1, c2, e, h1, h2⟩, i + 1, hi => by
    obtain ⟨h3, h4⟩ := h2.split hR i (by simpa using hi)
    have hc := hR _ _ h1
    subst e
    have e1 : (i + 1) * n = c1.length + i * n := by rw [Nat.succ_mul, hc, Nat.add_comm]
    constructor
    · show Elems R (x :: l.take i) ((c1 ++ c2).take ((i + 1) * n))
      have e2 : (c1 ++ c2).take ((i + 1) * n) = c1 ++ c2.take (i * n) := by rw [e1, List.take_append, List.take_of_length_le (by omega), Nat.add_sub_cancel_left]
      rw [e2]
      exact ⟨c1, _, rfl, h1, h3⟩
    · show Elems R (l.drop i) ((c1 ++ c2).drop ((i + 1) * n))
      have e2 : (c1 ++ c2).drop ((i + 1) * n) = c2.drop (i * n) := by rw [e1, List.drop_append, List.drop_of_length_le (by omega), Nat.add_sub_cancel_left, List.nil_append]
      rw [e2]
      exact h4

theorem Elems.set {α : Type} {R : α → List Value → Prop} {n : Nat} (hR : ∀ x cs, R x cs → cs.length = n) {l : List α} {cs : List Value} (h : Elems R l cs) (i : Nat) (hi : i < l.length) {y : α} {c : List Value} (hy : R y c) :
    ∃ a b c0, cs = a ++ (c0 ++ b) ∧ a.length = i * n ∧ R l[i] c0 ∧ Elems R (l.set i y) (a ++ (c ++ b)) := by
  obtain ⟨a, c0, b, e, ha, h0, h1, h2⟩ := h.get hR i hi
  refine ⟨a, b, c0, e, ha, h0, ?_⟩
  rw [List.set_eq_take_append_cons_drop, if_pos hi]
  exact h1.append ⟨c, b, rfl, hy, h2⟩

/-! ### Groups -/
theorem PsR.append {fz : Nat → Nat → Option Value} : ∀ {l m : List AV} {a b : List Value}, PsR fz l a → PsR fz m b → PsR fz (l ++ m) (a ++ b)
  | [], m, a, b, h, k => by have : a = [] := h; subst this; exact k
  | .val T x :: l, m, a, b, ⟨c1, c2, e, h1, h2⟩, k => ⟨c1, c2 ++ b, by simp [e], h1, h2.append k⟩

theorem psR_gs {fz : Nat → Nat → Option Value} : ∀ {T : Ty} {x : T.den} {cs : List Value}, CR fz T x cs → PsR fz (T.gs x) cs
  | .int _, _, cs, h => ⟨cs, [], by simp, h, rfl⟩
  | .bool, _, cs, h => ⟨cs, [], by simp, h, rfl⟩
  | .str, _, cs, h => ⟨cs, [], by simp, h, rfl⟩
  | .sl _, _, cs, h => ⟨cs, [], by simp, h, rfl⟩
  | .unit, _, _, h => h
  | .pair a b, x, cs, h => by
    obtain ⟨c1, c2, rfl, h1, h2⟩ := h
    exact (psR_gs h1).append (psR_gs h2)
  | .arr _ _, _, cs, h => ⟨cs, [], by simp, h, rfl⟩

theorem PsR.gsR {g : Gh} : ∀ {l : List AV} {cs : List Value}, PsR g.fz l cs → GsR g l cs
  | [], _, h => h
  | .val _ _ :: _, _, ⟨c1, c2, e, h1, h2⟩ => ⟨c1, c2, e, h1, h2.gsR⟩

theorem gsR_gs {g : Gh} {T : Ty} {x : T.den} {cs : List Value} (h : CR g.fz T x cs) : GsR g (T.gs x) cs := (psR_gs h).gsR

theorem GsR.append {g : Gh} : ∀ {l m : List AV} {a b : List Value}, GsR g l a → GsR g m b → GsR g (l ++ m) (a ++ b)
  | [], m, a, b, h, k => by have : a = [] := h; subst this; exact k
  | _ :: l, m, a, b, ⟨c1, c2, e, h1, h2⟩, k => ⟨c1, c2 ++ b, by simp [e], h1, h2.append k⟩

theorem GR.length {g : Gh} {v : AV} {cs : List Value} (h : GR g v cs) : cs.length = v.size := by
  cases v <;> simp only [GR] at h <;> simp only [AV.size]
  case val T x => exact h.length
  case full => obtain ⟨_, _, _, rfl, _⟩ := h; rfl
  case nn => obtain ⟨_, _, _, _, rfl, _⟩ := h; rfl
  case ptr => obtain ⟨_, _, _, _, _, _, rfl⟩ := h; rfl
  case rptr => obtain ⟨_, _, _, _, _, _, _, rfl⟩ := h; rfl
  case eptr => obtain ⟨_, _, _, rfl, _⟩ := h; rfl
  case row => obtain ⟨_, _, _, _, rfl, _⟩ := h; rfl
  case vsl => obtain ⟨_, _, _, _, _, _, _, _, _, rfl, _⟩ := h; rfl
  case fn => obtain ⟨_, rfl, _⟩ := h; rfl
  case yld => obtain ⟨_, _, _, _, _, rfl⟩ := h; rfl
  case iface => obtain ⟨_, rfl, _⟩ := h; rfl
  case junk => obtain ⟨_, rfl, _⟩ := h; rfl
  all_goals simp [h]

theorem GsR.length {g : Gh} : ∀ {gs : List AV} {cs : List Value}, GsR g gs cs → cs.length = gsSize gs
  | [], _, h => by have : _ = [] := h; simp [this, gsSize]
  | v :: gs, _, ⟨c1, c2, e, h1, h2⟩ => by rw [e, List.length_append, h1.length, h2.length, gsSize]

theorem PsR.length {fz : Nat → Nat → Option Value} : ∀ {gs : List AV} {cs : List Value}, PsR fz gs cs → cs.length = gsSize gs :=
  fun h => (PsR.gsR (g := ⟨fz, fun _ => none⟩) h).length

theorem PsR.mono {fz fz' : Nat → Nat → Option Value} (hf : ∀ b o v, fz b o = some v → fz' b o = some v) : ∀ {l : List AV} {cs : List Value}, PsR fz l cs → PsR fz' l cs
  | [], _, h => h
  | .val _ _ :: _, _, ⟨c1, c2, e, h1, h2⟩ => ⟨c1, c2, e, h1.mono hf, h2.mono hf⟩

theorem ble_false {a b : Nat} (h : ¬ a ≤ b) : Nat.ble a b = false := by
  cases hb : Nat.ble a b
  · rfl
  · exact absurd (Nat.le_of_ble_eq_true hb) h

theorem dropGs_rel {g : Gh} : ∀ {gs : List AV} {n : Nat} {gs' : List AV} {cs : List Value}, dropGs gs n = some gs' → GsR g gs cs → n ≤ cs.length ∧ GsR g gs' (cs.drop n)
  | gs, 0, gs', cs, h, k => by
    simp only [dropGs, Option.some.injEq] at h
    subst h
    exact ⟨Nat.zero_le _, by simpa using k⟩
  | [], n + 1, gs', cs, h, k => by simp [dropGs] at h
  | v :: gs, n + 1, gs', cs, h, ⟨c1, c2, e, h1, h2⟩ => by
    simp only [dropGs] at h
    by_cases hle : v.size ≤ n + 1
    · simp only [Nat.ble_eq_true_of_le hle, cond_true] at h
      obtain ⟨h3, h4⟩ := dropGs_rel h h2
      have hl := h1.length
      subst e
      refine ⟨by rw [List.length_append]; omega, ?_⟩
      rw [List.drop_append, List.drop_of_length_le (by omega), List.nil_append, hl]
      exact h4
    · have hb : Nat.ble v.size (n + 1) = false := ble_false hle
      simp [hb] at h

theorem takeGs_rel {g : Gh} : ∀ {gs : List AV} {n : Nat} {gs' : List AV} {cs : List Value}, takeGs gs n = some gs' → GsR g gs cs → n ≤ cs.length ∧ GsR g gs' (cs.take n)
  | gs, 0, gs', cs, h, k => by
    simp only [takeGs, Option.some.injEq] at h
    subst h
    exact ⟨Nat.zero_le _, by simp [GsR]⟩
  | [], n + 1, gs', cs, h, k => by simp [takeGs] at h
  | v :: gs, n + 1, gs', cs, h, ⟨c1, c2, e, h1, h2⟩ => by
    simp only [takeGs] at h
    by_cases hle : v.size ≤ n + 1
    · simp only [Nat.ble_eq_true_of_le hle, cond_true, Option.map_eq_some_iff] at h
      obtain ⟨r, hr, rfl⟩ := h
      obtain ⟨h3, h4⟩ := takeGs_rel hr h2
      have hl := h1.length
      subst e
      refine ⟨by rw [List.length_append]; omega, ?_⟩
      rw [List.take_append, List.take_of_length_le (by omega), hl]
      exact ⟨c1, _, rfl, h1, h4⟩
    · have hb : Nat.ble v.size (n + 1) = false := ble_false hle
      simp [hb] at h

theorem putGs_rel {g : Gh} {new : List AV} {ns : List Value} (hn : GsR g new ns) : ∀ {gs : List AV} {n : Nat} {gs' : List AV} {cs : List Value}, putGs gs n new = some gs' → GsR g gs cs →
    n + ns.length ≤ cs.length ∧ GsR g gs' (cs.take n ++ ns ++ cs.drop (n + ns.length))
  | gs, 0, gs', cs, h, k => by
    have h' : (dropGs gs (gsSize new)).map (new ++ ·) = some gs' := by cases gs <;> simpa [putGs] using h
    rw [Option.map_eq_some_iff] at h'
    obtain ⟨r, hr, rfl⟩ := h'
    obtain ⟨h3, h4⟩ := dropGs_rel hr k
    rw [← hn.length] at h3 h4
    refine ⟨by omega, ?_⟩
    simp only [List.take_zero, List.nil_append, Nat.zero_add]
    exact hn.append h4
  | [], n + 1, gs', cs, h, k => by simp [putGs] at h
  | v :: gs, n + 1, gs', cs, h, ⟨c1, c2, e, h1, h2⟩ => by
    simp only [putGs] at h
    by_cases hle : v.size ≤ n + 1
    · simp only [Nat.ble_eq_true_of_le hle, cond_true, Option.map_eq_some_iff] at h
      obtain ⟨r, hr, rfl⟩ := h
      obtain ⟨h3, h4⟩ := putGs_rel hn hr h2
      have hl := h1.length
      subst e
      refine ⟨by rw [List.length_append]; omega, ?_⟩
      rw [List.take_append, List.take_of_length_le (by omega), List.drop_append, List.drop_of_length_le (by omega), List.nil_append, hl,
        show n + 1 + ns.length - v.size = n + 1 - v.size + ns.length by omega, List.append_assoc, List.append_assoc]
      exact ⟨c1, _, rfl, h1, by simpa [List.append_assoc] using h4⟩
    · have hb : Nat.ble v.size (n + 1) = false := ble_false hle
      simp [hb] at h

/-! ### A value's cells -/
theorem Elems.all {α : Type} {R : α → List Value → Prop} {p : Value → Prop} (hR : ∀ x cs, R x cs → ∀ c ∈ cs, p c) : ∀ {l : List α} {cs : List Value}, Elems R l cs → ∀ c ∈ cs, p c
  | [], _, h => by have : _ = [] := h; simp [this]
  | x :: l, _, ⟨c1, c2, e, h1, h2⟩ => by
    intro c hc
    rw [e, List.mem_append] at hc
    rcases hc with hc | hc
    · exact hR _ _ h1 c hc
    · exact h2.all hR c hc

theorem CR.one {fz : Nat → Nat → Option Value} : ∀ {T : Ty} {x : T.den} {cs : List Value}, CR fz T x cs → ∀ c ∈ cs, c.oneCell' = true
  | .int _, _, _, h => by simp only [CR] at h; simp [h, Value.oneCell']
  | .bool, _, _, h => by simp only [CR] at h; simp [h, Value.oneCell']
  | .str, _, _, h => by simp only [CR] at h; simp [h, Value.oneCell']
  | .sl _, _, _, h => by
    obtain ⟨v, rfl, h⟩ := h
    rcases h with ⟨_, rfl⟩ | ⟨_, _, _, _, rfl, _⟩ <;> simp [Value.oneCell']
  | .unit, _, _, h => by simp only [CR] at h; simp [h]
  | .pair a b, x, cs, h => by
    obtain ⟨c1, c2, rfl, h1, h2⟩ := h
    intro c hc
    rw [List.mem_append] at hc
    rcases hc with hc | hc
    · exact h1.one c hc
    · exact h2.one c hc
  | .arr n e, l, cs, h => h.2.all (fun x cs h => h.one)

theorem WinR.one {gb : Gb} {w : Win} {v : Value} (h : WinR gb w v) : v.oneCell' = true := by
  unfold WinR at h
  split at h
  · rw [h.1]; rfl
  · rw [h]; rfl
  · obtain ⟨_, a, c, rfl, _⟩ := h; rfl
  · rw [h.2.2.2]; rfl

theorem GR.one {g : Gh} {v : AV} {cs : List Value} (h : GR g v cs) : ∀ c ∈ cs, c.oneCell' = true := by
  cases v <;> simp only [GR] at h
  case val T x => exact h.one
  case full => obtain ⟨_, _, _, rfl, _⟩ := h; simp [Value.oneCell']
  case nn => obtain ⟨_, _, _, _, rfl, _⟩ := h; simp [Value.oneCell']
  case ptr => obtain ⟨_, _, _, _, _, _, rfl⟩ := h; simp [Value.oneCell']
  case rptr => obtain ⟨_, _, _, _, _, _, _, rfl⟩ := h; simp [Value.oneCell']
  case eptr => obtain ⟨_, _, _, rfl, _⟩ := h; simp [Value.oneCell']
  case row => obtain ⟨_, _, _, _, rfl, h⟩ := h; simp [h.one]
  case vsl => obtain ⟨_, _, _, _, _, _, _, _, _, rfl, _⟩ := h; simp [Value.oneCell']
  case fn => obtain ⟨_, rfl, _⟩ := h; simp [Value.oneCell']
  case yld => obtain ⟨_, _, _, _, _, rfl⟩ := h; simp [Value.oneCell']
  case iface => obtain ⟨_, rfl, _⟩ := h; simp [Value.oneCell']
  case junk => obtain ⟨_, rfl, h⟩ := h; simp [h]
  all_goals simp [h, Value.oneCell']

theorem GsR.one {g : Gh} : ∀ {gs : List AV} {cs : List Value}, GsR g gs cs → ∀ c ∈ cs, c.oneCell' = true
  | [], _, h => by have : _ = [] := h; simp [this]
  | v :: gs, _, ⟨c1, c2, e, h1, h2⟩ => by
    intro c hc
    rw [e, List.mem_append] at hc
    rcases hc with hc | hc
    · exact h1.one c hc
    · exact h2.one c hc

theorem cells_one {c : Value} (h : c.oneCell' = true) : c.cells = #[c] := by
  cases c <;> first | rfl | (simp [Value.oneCell'] at h)

theorem vr1_single {g : Gh} {v : AV} {c : Value} (hv : v.single = true) : VR1 g v c ↔ GR g v [c] := by
  cases v <;> simp only [AV.single, Bool.false_eq_true] at hv <;> try exact Iff.rfl
  case val T x => cases T <;> simp only [Bool.false_eq_true] at hv <;> exact Iff.rfl

theorem VR1.single_gs {g : Gh} {v : AV} {c : Value} (h : VR1 g v c) (hv : v.single = true) : GR g v [c] ∧ c.cells = #[c] := by
  have h' := (vr1_single hv).1 h
  exact ⟨h', cells_one (h'.one c (by simp))⟩

theorem VR1.gs {g : Gh} {v : AV} {c : Value} (h : VR1 g v c) (hv : v.okGs = true) : GsR g v.gs c.cells.toList := by
  by_cases hs : v.single = true
  · obtain ⟨h1, h2⟩ := h.single_gs hs
    have e : v.gs = [v] := by cases v <;> first | rfl | (simp [AV.single] at hs)
    rw [e, h2]
    exact ⟨[c], [], rfl, h1, rfl⟩
  · cases v <;> simp only [AV.okGs, Bool.false_eq_true, AV.single, not_true] at hv hs
    case val T x =>
      cases T <;> simp only [not_true] at hs
      case arr n T =>
        obtain ⟨arr, rfl, h⟩ := h
        exact ⟨arr.toList, [], by simp [Value.cells], h, rfl⟩
      all_goals exact h.elim
    case agg gs =>
      obtain ⟨arr, rfl, h⟩ := h
      exact h

theorem VR.vr1 {g : Gh} {v : AV} {c : Value} (hv : v.okGs = true) (h : VR g v c) : VR1 g v c := by
  cases v <;> first | exact h | (simp [AV.okGs] at hv)

theorem VR.gs {g : Gh} {v : AV} {c : Value} (h : VR g v c) (hv : v.okGs = true) : GsR g v.gs c.cells.toList := (VR.vr1 hv h).gs hv

theorem VR1.vr {g : Gh} {v : AV} {c : Value} (hv : ∀ vs, v ≠ .tup vs) (h : VR1 g v c) : VR g v c := by
  cases v <;> first | exact h | exact (hv _ rfl).elim

/-- A typed value, whole. -/
theorem vr_av {g : Gh} {T : Ty} {x : T.den} {arr : Array Value} (h : CR g.fz T x arr.toList) :
    VR1 g (T.av x) (match T with | .pair _ _ | .unit | .arr _ _ => .agg arr | _ => arr.getD 0 undef) := by
  cases T
  case int k => have h' : arr.toList = [.int k x] := h; obtain ⟨l⟩ := arr; simp only at h'; subst h'; exact rfl
  case bool => have h' : arr.toList = [.bool x] := h; obtain ⟨l⟩ := arr; simp only at h'; subst h'; exact rfl
  case str => have h' : arr.toList = [.string x] := h; obtain ⟨l⟩ := arr; simp only at h'; subst h'; exact rfl
  case sl e => obtain ⟨v, h1, h2⟩ := h; obtain ⟨l⟩ := arr; simp only at h1; subst h1; exact ⟨v, rfl, h2⟩
  case unit => exact ⟨arr, rfl, h⟩
  case pair a b => exact ⟨arr, rfl, gsR_gs h⟩
  case arr n e => exact ⟨arr, rfl, h⟩

end Go.V
namespace Go.V
variable [Codes]

/-- What is known goes on, but perhaps of one row. -/
structure ExtBut (b : Option Nat) (g g' : Gh) : Prop where
  fz : ∀ k o v, g.fz k o = some v → g'.fz k o = some v
  bx : ∀ k gb, some k ≠ b → g.bx k = some gb → g'.bx k = some gb
  row : ∀ k gb, some k = b → g.bx k = some gb → gb.isRow = true

theorem ExtBut.refl (g : Gh) : ExtBut none g g := ⟨fun _ _ _ h => h, fun _ _ _ h => h, fun _ _ h _ => nomatch h⟩

def AV.clear (b : Option Nat) (v : AV) : Prop := ∀ k, b = some k → v.has k = false

theorem CapsR.ext {b : Option Nat} {g g' : Gh} (hx : ExtBut b g g') : ∀ {l : List AV} {vs : List Value}, CapsR g l vs → CapsR g' l vs
  | [], [], h => h
  | [], _ :: _, h => h.elim
  | _ :: _, [], h => h.elim
  | a :: l, v :: vs, ⟨h1, h2⟩ => by
    refine ⟨?_, h2.ext hx⟩
    unfold CapR at h1 ⊢
    split at h1
    · obtain ⟨gb, blk, e1, e2, e3⟩ := h1
      refine ⟨gb, blk, hx.bx _ _ (fun e => ?_) e1, e2, e3⟩
      have := hx.row _ _ e e1
      rw [this] at e2
      exact absurd e2 (by decide)
    · exact h1.elim

theorem GR.ext {b : Option Nat} {g g' : Gh} (hx : ExtBut b g g') {v : AV} {cs : List Value} (h : GR g v cs) (hv : v.clear b) : GR g' v cs := by
  have kp : ∀ k gb, g.bx k = some gb → gb.isRow = false → g'.bx k = some gb := fun k gb e1 e2 => hx.bx k gb (fun e => by
    have := hx.row _ _ e e1
    rw [this] at e2
    exact absurd e2 (by decide)) e1
  cases v <;> simp only [GR] at h ⊢
  case val T x => exact h.mono hx.fz
  case full T l => obtain ⟨blk, off, cs', e, h1, h2⟩ := h; exact ⟨blk, off, cs', e, h1.mono (fun x cs h => h.mono hx.fz), h2.mono hx.fz⟩
  case nn T l => obtain ⟨blk, off, cap, cs', e, h0, h1, h2⟩ := h; exact ⟨blk, off, cap, cs', e, h0, h1.mono (fun x cs h => h.mono hx.fz), h2.mono hx.fz⟩
  case ptr => obtain ⟨gb, blk, e1, e2, r⟩ := h; exact ⟨gb, blk, kp _ _ e1 e2, e2, r⟩
  case rptr k i o =>
    obtain ⟨gb, blk, e1, r⟩ := h
    refine ⟨gb, blk, hx.bx _ _ (fun e => ?_) e1, r⟩
    have := hv k e.symm
    simp [AV.has] at this
  case eptr => obtain ⟨blk, off, cs', e, h1, h2⟩ := h; exact ⟨blk, off, cs', e, h1.mono hx.fz, h2.mono hx.fz⟩
  case row k w =>
    obtain ⟨gb, v, e1, r⟩ := h
    refine ⟨gb, v, hx.bx _ _ (fun e => ?_) e1, r⟩
    have := hv k e.symm
    simp [AV.has] at this
  case vsl => obtain ⟨gb, blk, cap, e1, e2, r⟩ := h; exact ⟨gb, blk, cap, kp _ _ e1 e2, e2, r⟩
  case fn => obtain ⟨vs, e, h⟩ := h; exact ⟨vs, e, h.ext hx⟩
  case yld => obtain ⟨gb, l, e1, e2, r⟩ := h; exact ⟨gb, l, kp _ _ e1 e2, e2, r⟩
  all_goals exact h

def gsClear (b : Option Nat) (gs : List AV) : Prop := ∀ k, b = some k → hasL k gs = false

theorem GsR.ext {b : Option Nat} {g g' : Gh} (hx : ExtBut b g g') : ∀ {gs : List AV} {cs : List Value}, GsR g gs cs → gsClear b gs → GsR g' gs cs
  | [], _, h, _ => h
  | v :: gs, _, ⟨c1, c2, e, h1, h2⟩, hc => by
    refine ⟨c1, c2, e, h1.ext hx (fun k hk => ?_), h2.ext hx (fun k hk => ?_)⟩ <;> have := hc k hk <;> simp [hasL] at this
    · exact this.1
    · exact this.2

theorem VR1.ext {b : Option Nat} {g g' : Gh} (hx : ExtBut b g g') {v : AV} {c : Value} (h : VR1 g v c) (hv : v.clear b) : VR1 g' v c := by
  by_cases hs : v.single = true
  · exact (vr1_single hs).2 (((vr1_single hs).1 h).ext hx hv)
  · cases v <;> simp only [AV.single, not_true] at hs <;> try exact h
    case val T x =>
      cases T <;> simp only [not_true] at hs
      case arr n T => obtain ⟨arr, e, h⟩ := h; exact ⟨arr, e, h.mono hx.fz⟩
      all_goals exact h
    case agg gs =>
      obtain ⟨arr, e, h⟩ := h
      exact ⟨arr, e, h.ext hx (fun k hk => by have := hv k hk; simpa [AV.has] using this)⟩

theorem TsR.ext {b : Option Nat} {g g' : Gh} (hx : ExtBut b g g') : ∀ {l : List AV} {vs : List Value}, TsR g l vs → gsClear b l → TsR g' l vs
  | [], [], h, _ => h
  | [], _ :: _, h, _ => h.elim
  | _ :: _, [], h, _ => h.elim
  | a :: l, v :: vs, ⟨h1, h2⟩, hc => by
    refine ⟨h1.ext hx (fun k hk => ?_), h2.ext hx (fun k hk => ?_)⟩ <;> have := hc k hk <;> simp [hasL] at this
    · exact this.1
    · exact this.2

theorem VR.ext {b : Option Nat} {g g' : Gh} (hx : ExtBut b g g') {v : AV} {c : Value} (h : VR g v c) (hv : v.clear b) : VR g' v c := by
  cases v
  case tup vs =>
    obtain ⟨arr, e, h⟩ := h
    exact ⟨arr, e, h.ext hx (fun k hk => by have := hv k hk; simpa [AV.has] using this)⟩
  all_goals exact VR1.ext (c := c) hx (by exact h) hv

theorem clear_none (v : AV) : v.clear none := fun _ h => nomatch h
theorem gsClear_none (v : List AV) : gsClear none v := fun _ h => nomatch h

theorem VR.grow {g g' : Gh} (hx : ExtBut none g g') {v : AV} {c : Value} (h : VR g v c) : VR g' v c := h.ext hx (clear_none v)
theorem GsR.grow {g g' : Gh} (hx : ExtBut none g g') {v : List AV} {c : List Value} (h : GsR g v c) : GsR g' v c := h.ext hx (gsClear_none v)

theorem EnvR.grow {g g' : Gh} (hx : ExtBut none g g') {env : Env} {tm : Array Value} (h : EnvR g env tm) : EnvR g' env tm := fun n v e => (h n v e).grow hx

theorem StkR.grow {g g' : Gh} (hx : ExtBut none g g') : ∀ {l : List Env} {ts : List (Array Value)}, StkR g l ts → StkR g' l ts
  | [], [], h => h
  | [], _ :: _, h => h.elim
  | _ :: _, [], h => h.elim
  | _ :: _, _ :: _, ⟨h1, h2⟩ => ⟨h1.grow hx, h2.grow hx⟩

/-! ### What is stale -/
theorem has_stale (k : Nat) (v : AV) : (v.stale k).has k = false := by
  unfold AV.stale
  cases h : v.has k
  · simpa using h
  · simp [AV.has]

theorem find_staleE (k : Nat) : ∀ (env : Env) (n : Nat), find (staleE k env) n = (find env n).map (·.stale k)
  | [], _ => rfl
  | (m, v) :: l, n => by
    simp only [staleE, find]
    cases Nat.beq m n
    · simp [find_staleE k l n]
    · simp

theorem VR.stale {g g' : Gh} {b : Nat} (hx : ExtBut (some b) g g') {v : AV} {c : Value} (h : VR g v c) : VR g' (v.stale b) c := by
  unfold AV.stale
  cases hb : v.has b
  · exact h.ext hx (fun k hk => by cases hk; exact hb)
  · exact trivial

theorem EnvR.stale {g g' : Gh} {b : Nat} (hx : ExtBut (some b) g g') {env : Env} {tm : Array Value} (h : EnvR g env tm) : EnvR g' (staleE b env) tm := by
  intro n v e
  rw [find_staleE] at e
  cases hf : find env n with
  | none => rw [hf] at e; cases e
  | some u => rw [hf] at e; cases e; exact (h n u hf).stale hx

theorem StkR.stale {g g' : Gh} {b : Nat} (hx : ExtBut (some b) g g') : ∀ {l : List Env} {ts : List (Array Value)}, StkR g l ts → StkR g' (staleS b l) ts
  | [], [], h => h
  | [], _ :: _, h => h.elim
  | _ :: _, [], h => h.elim
  | _ :: _, _ :: _, ⟨h1, h2⟩ => ⟨h1.stale hx, h2.stale hx⟩

theorem GR.stale {g g' : Gh} {b : Nat} (hx : ExtBut (some b) g g') {v : AV} {cs : List Value} (h : GR g v cs) : GR g' (v.stale b) cs := by
  unfold AV.stale
  cases hb : v.has b
  · exact h.ext hx (fun k hk => by cases hk; exact hb)
  · have h1 := h.one
    have hl := h.length
    have hs : v.size = 1 := by cases v <;> simp [AV.has] at hb <;> rfl
    rw [hs] at hl
    match cs, hl with
    | [c], _ => exact ⟨c, rfl, h1 c (by simp)⟩

theorem GsR.stale {g g' : Gh} {b : Nat} (hx : ExtBut (some b) g g') : ∀ {gs : List AV} {cs : List Value}, GsR g gs cs → GsR g' (staleL b gs) cs
  | [], _, h => h
  | _ :: _, _, ⟨c1, c2, e, h1, h2⟩ => ⟨c1, c2, e, h1.stale hx, h2.stale hx⟩

/-! ### Lists of boxes -/
theorem beq_iff {a b : Nat} : Nat.beq a b = true ↔ a = b := ⟨Nat.eq_of_beq_eq_true, fun h => by subst h; exact Nat.beq_refl a⟩
theorem beq_false {a b : Nat} (h : a ≠ b) : Nat.beq a b = false := by
  cases e : Nat.beq a b
  · rfl
  · exact absurd (Nat.eq_of_beq_eq_true e) h

theorem find_cons_same {α : Type} (l : List (Nat × α)) (k : Nat) (v : α) : find ((k, v) :: l) k = some v := by simp [find]
theorem find_cons_other {α : Type} (l : List (Nat × α)) {k n : Nat} (v : α) (h : k ≠ n) : find ((k, v) :: l) n = find l n := by simp [find, beq_false h]

theorem find_setB_same : ∀ (l : Bxs) (k : Nat) (b : Box), find (setB l k b) k = some b
  | [], k, b => find_cons_same _ _ _
  | (j, c) :: l, k, b => by
    simp only [setB]
    by_cases h : j = k
    · subst h; simp [find]
    · simp only [beq_false h, cond_false]
      rw [find_cons_other _ _ h]
      exact find_setB_same l k b

theorem find_setB_other : ∀ (l : Bxs) {k n : Nat} (b : Box), k ≠ n → find (setB l k b) n = find l n
  | [], k, n, b, h => by simp [setB, find, beq_false h]
  | (j, c) :: l, k, n, b, h => by
    simp only [setB]
    by_cases hj : j = k
    · subst hj
      simp only [Nat.beq_refl, cond_true]
      rw [find_cons_other _ _ h, find_cons_other _ _ h]
    · simp only [beq_false hj, cond_false]
      by_cases hn : j = n
      · subst hn; rw [find_cons_same, find_cons_same]
      · rw [find_cons_other _ _ hn, find_cons_other _ _ hn]
        exact find_setB_other l b h

def Box.stale (k : Nat) : Box → Box
  | .var gs => .var (staleL k gs)
  | .loop u f i env => .loop u f i (staleE k env)
  | b => b

theorem find_staleB (k : Nat) : ∀ (l : Bxs) (n : Nat), find (staleB k l) n = (find l n).map (Box.stale k)
  | [], _ => rfl
  | (m, .var gs) :: l, n => by
    simp only [staleB, find]
    cases Nat.beq m n
    · simp [find_staleB k l n]
    · simp [Box.stale]
  | (m, .row T fz x) :: l, n => by
    simp only [staleB, find]
    cases Nat.beq m n
    · simp [find_staleB k l n]
    · simp [Box.stale]
  | (m, .loop u f i env) :: l, n => by
    simp only [staleB, find]
    cases Nat.beq m n
    · simp [find_staleB k l n]
    · simp [Box.stale]
  | (m, .dead) :: l, n => by
    simp only [staleB, find]
    cases Nat.beq m n
    · simp [find_staleB k l n]
    · simp [Box.stale]

/-! ### Blocks -/
theorem BlkIs.lt {w : World} {blk : Nat} {cells : List Value} (h : BlkIs w blk cells) : blk < w.heap.size := by
  obtain ⟨e, lo, hi, h, _⟩ := h
  exact (Array.getElem?_eq_some_iff.1 h).1

theorem BlkIs.same {w w' : World} {blk : Nat} {cells : List Value} (h : BlkIs w blk cells) (he : w'.heap[blk]? = w.heap[blk]?) : BlkIs w' blk cells := by
  obtain ⟨e, lo, hi, h1, h2⟩ := h
  exact ⟨e, lo, hi, he.trans h1, h2⟩

theorem BlkIs.cell {w : World} {blk : Nat} {cells : List Value} (h : BlkIs w blk cells) (o : Nat) : w.cell? ⟨blk, o, none⟩ = cells[o]? := by
  obtain ⟨e, lo, hi, h1, h2⟩ := h
  simp [World.cell?, h1]

theorem BlkIs.frozen {w : World} {blk : Nat} {cells : List Value} (h : BlkIs w blk cells) {o : Nat} (ho : o < cells.length) : w.frozen? ⟨blk, o, none⟩ = false := by
  obtain ⟨e, lo, hi, h1, h2⟩ := h
  have := h2 o ho
  simp only [World.frozen?, h1]
  cases hd : (decide (lo ≤ o) && decide (o < hi))
  · rfl
  · simp at hd
    exact absurd hd this

theorem blkIs_alloc (w : World) (cs : List Value) (e : TypeId) : BlkIs (w.alloc (.cells cs.toArray e)) w.heap.size cs :=
  ⟨e, 0, 0, heap_alloc_new w _, fun _ _ h => absurd h.2 (by omega)⟩

theorem BxR.lt {g : Gh} {bxs : Bxs} {w : World} (h : BxR g bxs w) {blk : Nat} (ho : owned g blk) : blk < w.heap.size := by
  obtain ⟨k, gb, e1, e2, e3⟩ := ho
  obtain ⟨b, hb⟩ := Option.isSome_iff_exists.1 (h.dom k gb e1)
  obtain ⟨gb', e4, hr⟩ := h.box k b hb
  rw [e1] at e4
  cases e4
  cases b with
  | var gs =>
    obtain ⟨_, _, blk', cells, e5, e6, _⟩ := hr
    rw [e2] at e5
    cases e5
    exact e6.lt
  | row T fz l =>
    obtain ⟨_, _, _, _, hr⟩ := hr
    simp only [e2, e3] at hr
    obtain ⟨cells, cs, e6, _⟩ := hr
    exact e6.lt
  | loop u f i env =>
    obtain ⟨_, _, l, _, _, _, _, e5, _, e6, _⟩ := hr
    rw [e2] at e5
    cases e5
    exact (Array.getElem?_eq_some_iff.1 e6).1
  | dead =>
    obtain ⟨_, _, l, _, e5, e6, _⟩ := hr
    rw [e2] at e5
    cases e5
    exact (Array.getElem?_eq_some_iff.1 e6).1

theorem FzOK.lt {g : Gh} {w : World} (h : FzOK g w) {b o : Nat} (hf : g.fz b o ≠ none) : b < w.heap.size := by
  cases e : g.fz b o with
  | none => exact (hf e).elim
  | some v => exact World.block_lt_of_cell? w _ (h b o v e)

/-- A box that does not name a row. -/
def boxClear (x : Option Nat) (b : Box) : Prop :=
  match b with
  | .var gs => gsClear x gs
  | .loop _ _ _ env => ∀ n v, find env n = some v → v.clear x
  | _ => True

theorem boxClear_none (b : Box) : boxClear none b := by
  cases b <;> first | trivial | exact gsClear_none _ | exact fun _ v _ => clear_none v

/-- A box, when what is known goes on and its block stays. -/
theorem BoxR.ext {x : Option Nat} {g g' : Gh} (hx : ExtBut x g g') {b : Box} {gb : Gb} {w w' : World} (h : BoxR g b gb w)
    (hw : ∀ blk, gb.blk = some blk → gb.own = true → w'.heap[blk]? = w.heap[blk]?)
    (hf : ∀ blk, gb.blk = some blk → gb.own = true → ∀ o, g.fz blk o = none → g'.fz blk o = none)
    (hc : boxClear x b) : BoxR g' b gb w' := by
  cases b with
  | var gs =>
    obtain ⟨h1, h2, blk, cells, h3, h4, h5, h6⟩ := h
    exact ⟨h1, h2, blk, cells, h3, h4.same (hw blk h3 h2), h5.ext hx hc, fun o => hf blk h3 h2 o (h6 o)⟩
  | row T fz l =>
    obtain ⟨h1, h2, h3, h4, h5⟩ := h
    refine ⟨h1, h2, h3, h4, ?_⟩
    cases hb : gb.blk with
    | none => simp only [hb] at h5 ⊢; exact h5
    | some blk =>
      cases ho : gb.own with
      | false =>
        simp only [hb, ho] at h5 ⊢
        obtain ⟨k1, k2, cs, k3, k4⟩ := h5
        exact ⟨k1, k2, cs, k3.mono (fun x cs h => h.mono hx.fz), k4.mono hx.fz⟩
      | true =>
        simp only [hb, ho] at h5 ⊢
        obtain ⟨cells, cs, k1, k2, k3, k4, k5, k6⟩ := h5
        exact ⟨cells, cs, k1.same (hw blk hb ho), k2, k3.mono (fun x cs h => h.mono hx.fz), k4, fun e o => hf blk hb ho o (k5 e o),
          fun e => ⟨(k6 e).1.mono hx.fz, fun o h => hf blk hb ho o ((k6 e).2 o h)⟩⟩
  | loop u f i env =>
    obtain ⟨h1, h2, l, tm, D, fn, cd, h3, h7, h4, h5, h6⟩ := h
    exact ⟨h1, h2, l, tm, D, fn, cd, h3, h7, (hw l h3 h2).trans h4, fun n v e => (h5 n v e).ext hx (hc n v e), h6.1, fun o => hf l h3 h2 o (h6.2 o)⟩
  | dead =>
    obtain ⟨h1, h2, l, o, h3, h4, h6⟩ := h
    exact ⟨h1, h2, l, o, h3, (hw l h3 h2).trans h4, fun o => hf l h3 h2 o (h6 o)⟩

theorem BoxR.extStale {x : Nat} {g g' : Gh} (hx : ExtBut (some x) g g') {b : Box} {gb : Gb} {w w' : World} (h : BoxR g b gb w)
    (hw : ∀ blk, gb.blk = some blk → gb.own = true → w'.heap[blk]? = w.heap[blk]?)
    (hf : ∀ blk, gb.blk = some blk → gb.own = true → ∀ o, g.fz blk o = none → g'.fz blk o = none) : BoxR g' (b.stale x) gb w' := by
  cases b with
  | var gs =>
    obtain ⟨h1, h2, blk, cells, h3, h4, h5, h6⟩ := h
    exact ⟨h1, h2, blk, cells, h3, h4.same (hw blk h3 h2), h5.stale hx, fun o => hf blk h3 h2 o (h6 o)⟩
  | row T fz l => exact h.ext hx hw hf trivial
  | loop u f i env =>
    obtain ⟨h1, h2, l, tm, D, fn, cd, h3, h7, h4, h5, h6⟩ := h
    have he : EnvR g' (staleE x env) tm := EnvR.stale hx h5
    exact ⟨h1, h2, l, tm, D, fn, cd, h3, h7, (hw l h3 h2).trans h4, he, h6.1, fun o => hf l h3 h2 o (h6.2 o)⟩
  | dead => exact h.ext hx hw hf trivial

/-! ### The heap grows -/
theorem FzOK.grow {g : Gh} {w w' : World} (h : FzOK g w) (hb : ∀ b, b < w.heap.size → w'.heap[b]? = w.heap[b]?) : FzOK g w' := fun b o v e => by
  have h1 := h b o v e
  have h2 := World.block_lt_of_cell? w _ h1
  rw [← h1]
  exact World.cell?_of_block (hb b h2)

theorem BxR.grow {g : Gh} {bxs : Bxs} {w w' : World} (h : BxR g bxs w) (hb : ∀ b, b < w.heap.size → w'.heap[b]? = w.heap[b]?) : BxR g bxs w' where
  box := fun k b e => by
    obtain ⟨gb, h1, h2⟩ := h.box k b e
    refine ⟨gb, h1, h2.ext (ExtBut.refl g) (fun blk e1 e2 => hb blk (h.lt ⟨k, gb, h1, e1, e2⟩)) (fun _ _ _ _ h => h) ?_⟩
    exact boxClear_none _
  dom := h.dom
  sep := h.sep

theorem StR.grow {g : Gh} {s : St} {tm : Array Value} {tms : List (Array Value)} {w w' : World} (h : StR g s tm tms w) (hb : ∀ b, b < w.heap.size → w'.heap[b]? = w.heap[b]?) : StR g s tm tms w' :=
  ⟨h.env, h.stk, h.bxs.grow hb, h.fz.grow hb⟩

theorem Tr.grow {g : Gh} {w w' : World} (h : w.grownBy w' none) : Tr g w g w' :=
  ⟨h.os, h.tape, h.output, h.size, fun _ _ _ h => h, fun _ _ h => .inl h, fun _ h => .inl h, fun b hb _ => h.block b hb (by simp)⟩

end Go.V
namespace Go.V
variable [Codes]

def Gh.put (g : Gh) (k : Nat) (gb : Gb) : Gh := { fz := g.fz, bx := fun j => if j = k then some gb else g.bx j }

theorem Gh.put_same (g : Gh) (k : Nat) (gb : Gb) : (g.put k gb).bx k = some gb := by simp [Gh.put]
theorem Gh.put_other (g : Gh) {k j : Nat} (gb : Gb) (h : j ≠ k) : (g.put k gb).bx j = g.bx j := by simp [Gh.put, h]

theorem BxR.none {g : Gh} {bxs : Bxs} {w : World} (h : BxR g bxs w) {k : Nat} (hk : find bxs k = none) : g.bx k = none := by
  cases e : g.bx k with
  | none => rfl
  | some gb => have := h.dom k gb e; rw [hk] at this; cases this

theorem ext_put {g : Gh} {k : Nat} (gb : Gb) (hk : g.bx k = none) : ExtBut none g (g.put k gb) :=
  ⟨fun _ _ _ h => h, fun j gb' _ h => by
    by_cases e : j = k
    · subst e; rw [hk] at h; cases h
    · rw [Gh.put_other _ _ e]; exact h, fun _ _ h _ => nomatch h⟩

/-- A new box. -/
theorem StR.add {g : Gh} {s : St} {tm : Array Value} {tms : List (Array Value)} {w w' : World} (h : StR g s tm tms w) {key : Nat} (hk : find s.bxs key = none)
    (hw : w.grownBy w' none) (b : Box) (gb : Gb) (hb : BoxR (g.put key gb) b gb w') (ho : ∀ blk, gb.blk = some blk → gb.own = true → w.heap.size ≤ blk) :
    StR (g.put key gb) ((Eff.add key b).apply s) tm tms w' ∧ Tr g w (g.put key gb) w' ∧ ExtBut none g (g.put key gb) := by
  have hn := h.bxs.none hk
  have hx := ext_put gb hn
  have hh : ∀ b, b < w.heap.size → w'.heap[b]? = w.heap[b]? := fun b hb => hw.block b hb (by simp)
  have hg := h.grow hh
  refine ⟨⟨hg.env.grow hx, hg.stk.grow hx, ⟨?_, ?_, ?_⟩, fun b o v e => hg.fz b o v e⟩, ⟨hw.os, hw.tape, hw.output, hw.size, fun _ _ _ h => h, fun _ _ h => .inl h, ?_, fun b h1 _ => hh b h1⟩, hx⟩
  · intro k b' e
    simp only [Eff.apply] at e
    by_cases hkk : key = k
    · subst hkk
      rw [find_cons_same] at e
      cases e
      exact ⟨gb, Gh.put_same _ _ _, hb⟩
    · rw [find_cons_other _ _ hkk] at e
      obtain ⟨gb', e1, e2⟩ := hg.bxs.box k b' e
      refine ⟨gb', by rw [Gh.put_other _ _ (Ne.symm hkk)]; exact e1, e2.ext hx (fun _ _ _ => rfl) (fun _ _ _ _ h => h) ?_⟩
      exact boxClear_none _
  · intro k gb' e
    simp only [Eff.apply]
    by_cases hkk : key = k
    · subst hkk; rw [find_cons_same]; rfl
    · rw [Gh.put_other _ _ (Ne.symm hkk)] at e
      rw [find_cons_other _ _ hkk]
      exact h.bxs.dom k gb' e
  · have hlt : ∀ k a blk, g.bx k = some a → a.blk = some blk → a.own = true → blk < w.heap.size := fun k a blk e1 e2 e3 => h.bxs.lt ⟨k, a, e1, e2, e3⟩
    intro k j a b' blk hne e1 e2 a1 a2 b1 b2
    by_cases hk1 : k = key
    · subst hk1
      rw [Gh.put_same] at e1
      cases e1
      rw [Gh.put_other _ _ (Ne.symm hne)] at e2
      have := ho blk a1 a2
      have := hlt j b' blk e2 b1 b2
      omega
    · rw [Gh.put_other _ _ hk1] at e1
      by_cases hj : j = key
      · subst hj
        rw [Gh.put_same] at e2
        cases e2
        have := ho blk b1 b2
        have := hlt k a blk e1 a1 a2
        omega
      · rw [Gh.put_other _ _ hj] at e2
        exact h.bxs.sep k j a b' blk hne e1 e2 a1 a2 b1 b2
  · rintro b' ⟨k, a, e1, e2, e3⟩
    by_cases hk1 : k = key
    · subst hk1
      rw [Gh.put_same] at e1
      cases e1
      exact .inr (ho b' e2 e3)
    · rw [Gh.put_other _ _ hk1] at e1
      exact .inl ⟨k, a, e1, e2, e3⟩

/-- The cells of one block, kept for good. -/
def Gh.freeze (g : Gh) (blk : Nat) (cs : List Value) : Gh := { fz := fun b o => if b = blk then cs[o]? else g.fz b o, bx := g.bx }

theorem grownBy_drew_alloc (w : World) (o : Obj) : w.grownBy (w.drew.alloc o) none :=
  ⟨rfl, rfl, rfl, by simp, fun k hk _ => by show (w.heap.push o)[k]? = w.heap[k]?; rw [Array.getElem?_push, if_neg (by omega)]⟩

/-- A new block whose cells are kept for good. -/
theorem StR.lit {g : Gh} {s : St} {tm : Array Value} {tms : List (Array Value)} {w : World} (h : StR g s tm tms w) (cs : List Value) (e : TypeId) :
    let w' := w.alloc (.cells cs.toArray e)
    let g' := g.freeze w.heap.size cs
    StR g' s tm tms w' ∧ Tr g w g' w' ∧ ExtBut none g g' ∧ Fz g'.fz w.heap.size 0 cs := by
  intro w' g'
  have hnf : ∀ o, g.fz w.heap.size o = none := fun o => by
    cases e : g.fz w.heap.size o with
    | none => rfl
    | some v => have := h.fz.lt (b := w.heap.size) (o := o) (by rw [e]; simp); omega
  have hx : ExtBut none g g' := ⟨fun k o v e => by
      show (if k = w.heap.size then cs[o]? else g.fz k o) = some v
      by_cases hk : k = w.heap.size
      · subst hk; rw [hnf] at e; cases e
      · rw [if_neg hk]; exact e, fun _ _ _ h => h, fun _ _ h _ => nomatch h⟩
  have hgr : w.grownBy w' none := World.grownBy_alloc w _ none
  have hh : ∀ b, b < w.heap.size → w'.heap[b]? = w.heap[b]? := fun b hb => hgr.block b hb (by simp)
  have hg := h.grow hh
  refine ⟨⟨hg.env.grow hx, hg.stk.grow hx, ⟨?_, fun k gb e => h.bxs.dom k gb e, fun k j a b blk hne e1 e2 => h.bxs.sep k j a b blk hne e1 e2⟩, ?_⟩,
    ⟨hgr.os, hgr.tape, hgr.output, hgr.size, hx.fz, ?_, fun b ⟨k, gb, e1, e2⟩ => .inl ⟨k, gb, e1, e2⟩, fun b hb _ => hh b hb⟩, hx, ?_⟩
  · intro k b e1
    obtain ⟨gb, e2, e3⟩ := hg.bxs.box k b e1
    refine ⟨gb, e2, e3.ext hx (fun _ _ _ => rfl) (fun blk k1 k2 o k3 => ?_) ?_⟩
    · have hlt := h.bxs.lt ⟨k, gb, e2, k1, k2⟩
      show (if blk = w.heap.size then cs[o]? else g.fz blk o) = none
      rw [if_neg (by omega)]
      exact k3
    · exact boxClear_none _
  · intro b o v e1
    have e1' : (if b = w.heap.size then cs[o]? else g.fz b o) = some v := e1
    by_cases hb : b = w.heap.size
    · subst hb
      rw [if_pos rfl] at e1'
      rw [(blkIs_alloc w cs e).cell o]
      exact e1'
    · rw [if_neg hb] at e1'
      exact hg.fz b o v e1'
  · intro b o e1
    have e1' : (if b = w.heap.size then cs[o]? else g.fz b o) ≠ none := e1
    by_cases hb : b = w.heap.size
    · exact .inr (.inl (by omega))
    · rw [if_neg hb] at e1'
      exact .inl e1'
  · intro j v e1
    show (if w.heap.size = w.heap.size then cs[0 + j]? else g.fz w.heap.size (0 + j)) = some v
    rw [if_pos rfl, Nat.zero_add]
    exact e1

/-- A store into a box. -/
theorem StR.upd {g : Gh} {s : St} {tm : Array Value} {tms : List (Array Value)} {w w' : World} (h : StR g s tm tms w) {k : Nat}
    {gb : Gb} (hg : g.bx k = some gb) {blk : Nat} (hb : gb.blk = some blk) (ho : gb.own = true) (hf : ∀ o, g.fz blk o = none)
    (os : w'.os = w.os) (tape : w'.tape = w.tape) (output : w'.output = w.output) (size : w.heap.size ≤ w'.heap.size) (hw : ∀ b, b ≠ blk → b < w.heap.size → w'.heap[b]? = w.heap[b]?)
    (b1 : Box) (hb1 : BoxR g b1 gb w') : StR g ((Eff.upd k b1).apply s) tm tms w' ∧ Tr g w g w' := by
  refine ⟨⟨h.env, h.stk, ⟨?_, ?_, h.bxs.sep⟩, ?_⟩, ⟨os, tape, output, size, fun _ _ _ h => h, fun _ _ h => .inl h, fun _ h => .inl h, fun b h1 h2 => hw b (fun e => ?_) h1⟩⟩
  · intro j b e
    simp only [Eff.apply] at e
    by_cases hj : k = j
    · subst hj
      rw [find_setB_same] at e
      cases e
      exact ⟨gb, hg, hb1⟩
    · rw [find_setB_other _ _ hj] at e
      obtain ⟨gb', e1, e2⟩ := h.bxs.box j b e
      refine ⟨gb', e1, e2.ext (ExtBut.refl g) (fun blk' k1 k2 => hw blk' (fun e => ?_) (h.bxs.lt ⟨j, gb', e1, k1, k2⟩)) (fun _ _ _ _ h => h) ?_⟩
      · subst e
        exact h.bxs.sep k j gb gb' blk' hj hg e1 hb ho k1 k2
      · exact boxClear_none _
  · intro j gb' e
    simp only [Eff.apply]
    by_cases hj : k = j
    · subst hj; rw [find_setB_same]; rfl
    · rw [find_setB_other _ _ hj]; exact h.bxs.dom j gb' e
  · intro b o v e
    by_cases hbb : b = blk
    · subst hbb; rw [hf] at e; cases e
    · have h1 := h.fz b o v e
      rw [← h1]
      exact World.cell?_of_block (hw b hbb (World.block_lt_of_cell? w _ h1))
  · subst e
    exact h2 ⟨k, gb, hg, hb, ho⟩

/-- A row grows. -/
theorem StR.app {g : Gh} {s : St} {tm : Array Value} {tms : List (Array Value)} {w w' : World} (h : StR g s tm tms w) {k : Nat}
    {gb : Gb} (hg : g.bx k = some gb) (hr : gb.isRow = true)
    (fz' : Nat → Nat → Option Value) (gb' : Gb) (hfz : ∀ b o v, g.fz b o = some v → fz' b o = some v)
    (hnew : ∀ b o, fz' b o ≠ none → g.fz b o ≠ none ∨ w.heap.size ≤ b ∨ (gb.blk = some b ∧ gb.own = true))
    (hok : FzOK ⟨fz', fun j => if j = k then some gb' else g.bx j⟩ w')
    (os : w'.os = w.os) (tape : w'.tape = w.tape) (output : w'.output = w.output) (size : w.heap.size ≤ w'.heap.size)
    (hw : ∀ b, ¬ (gb.blk = some b ∧ gb.own = true) → b < w.heap.size → w'.heap[b]? = w.heap[b]?)
    (ho : ∀ blk, gb'.blk = some blk → gb'.own = true → w.heap.size ≤ blk ∨ (gb.blk = some blk ∧ gb.own = true))
    (b1 : Box) (hb1 : BoxR ⟨fz', fun j => if j = k then some gb' else g.bx j⟩ b1 gb' w') :
    let g' : Gh := ⟨fz', fun j => if j = k then some gb' else g.bx j⟩
    StR g' ((Eff.app k b1).apply s) tm tms w' ∧ Tr g w g' w' ∧ ExtBut (some k) g g' := by
  intro g'
  have hx : ExtBut (some k) g g' := ⟨hfz, fun j a hj e => by
      show (if j = k then some gb' else g.bx j) = some a
      rw [if_neg (fun e => hj (by rw [e]))]
      exact e, fun j a hj e => by cases hj; rw [hg] at e; cases e; exact hr⟩
  have other : ∀ j, j ≠ k → g'.bx j = g.bx j := fun j hj => by show (if j = k then some gb' else g.bx j) = _; rw [if_neg hj]
  have same : g'.bx k = some gb' := by show (if k = k then some gb' else g.bx k) = _; rw [if_pos rfl]
  refine ⟨⟨h.env.stale hx, h.stk.stale hx, ⟨?_, ?_, ?_⟩, hok⟩, ⟨os, tape, output, size, hfz, ?_, ?_, fun b h1 h2 => hw b (fun e => h2 ⟨k, gb, hg, e.1, e.2⟩) h1⟩, hx⟩
  · intro j b e
    simp only [Eff.apply] at e
    by_cases hj : k = j
    · subst hj
      rw [find_setB_same] at e
      cases e
      exact ⟨gb', same, hb1⟩
    · rw [find_setB_other _ _ hj, find_staleB] at e
      cases hf : find s.bxs j with
      | none => rw [hf] at e; cases e
      | some c =>
        rw [hf] at e
        cases e
        obtain ⟨a, e1, e2⟩ := h.bxs.box j c hf
        have hsep : ∀ blk, a.blk = some blk → a.own = true → ¬ (gb.blk = some blk ∧ gb.own = true) := fun blk k1 k2 k3 => h.bxs.sep k j gb a blk hj hg e1 k3.1 k3.2 k1 k2
        have hlt : ∀ blk, a.blk = some blk → a.own = true → blk < w.heap.size := fun blk k1 k2 => h.bxs.lt ⟨j, a, e1, k1, k2⟩
        refine ⟨a, by rw [other j (Ne.symm hj)]; exact e1, e2.extStale hx (fun blk k1 k2 => hw blk (hsep blk k1 k2) (hlt blk k1 k2)) (fun blk k1 k2 o k3 => ?_)⟩
        cases hz : fz' blk o with
        | none => exact hz
        | some v =>
          rcases hnew blk o (by rw [hz]; simp) with h1 | h1 | h1
          · exact absurd k3 h1
          · have := hlt blk k1 k2; omega
          · exact (hsep blk k1 k2 h1).elim
  · intro j a e
    simp only [Eff.apply]
    by_cases hj : k = j
    · subst hj; rw [find_setB_same]; rfl
    · rw [other j (Ne.symm hj)] at e
      rw [find_setB_other _ _ hj, find_staleB, Option.isSome_map]
      exact h.bxs.dom j a e
  · have key : ∀ j a blk, j ≠ k → g.bx j = some a → a.blk = some blk → a.own = true → gb'.blk = some blk → gb'.own = true → False := fun j a blk hj e1 a1 a2 b1 b2 => by
      rcases ho blk b1 b2 with h1 | h1
      · have := h.bxs.lt ⟨j, a, e1, a1, a2⟩; omega
      · exact h.bxs.sep k j gb a blk (Ne.symm hj) hg e1 h1.1 h1.2 a1 a2
    intro i j a b blk hne e1 e2 a1 a2 b1 b2
    by_cases hi : i = k
    · subst hi
      rw [same] at e1
      cases e1
      rw [other j (Ne.symm hne)] at e2
      exact key j b blk (Ne.symm hne) e2 b1 b2 a1 a2
    · rw [other i hi] at e1
      by_cases hj : j = k
      · subst hj
        rw [same] at e2
        cases e2
        exact key i a blk hi e1 a1 a2 b1 b2
      · rw [other j hj] at e2
        exact h.bxs.sep i j a b blk hne e1 e2 a1 a2 b1 b2
  · intro b o e
    rcases hnew b o e with h1 | h1 | h1
    · exact .inl h1
    · exact .inr (.inl h1)
    · exact .inr (.inr ⟨k, gb, hg, h1.1, h1.2⟩)
  · rintro b ⟨j, a, e1, e2, e3⟩
    by_cases hj : j = k
    · subst hj
      rw [same] at e1
      cases e1
      rcases ho b e2 e3 with h1 | h1
      · exact .inr h1
      · exact .inl ⟨j, gb, hg, h1.1, h1.2⟩
    · rw [other j hj] at e1
      exact .inl ⟨j, a, e1, e2, e3⟩

end Go.V
