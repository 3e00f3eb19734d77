/- Abstract values, boxes and the abstract run of straight code: definitions alone. -/
import Derived.WalkKit
set_option linter.all false
set_option linter.unusedVariables false
set_option linter.unusedSectionVars false
set_option linter.unusedSimpArgs false
namespace Go.V

/-- Types of plain data. -/
inductive Ty where
  | int (k : IntKind) | bool | str | sl (e : Ty) | unit | pair (a b : Ty) | arr (n : Nat) (e : Ty)
  deriving DecidableEq

@[reducible] def Ty.den : Ty → Type
  | .int _ => Int
  | .bool => Bool
  | .str => ByteArray
  | .sl e => List e.den
  | .unit => Unit
  | .pair a b => a.den × b.den
  | .arr _ e => List e.den

def Ty.size : Ty → Nat
  | .int _ | .bool | .str | .sl _ => 1
  | .unit => 0
  | .pair a b => a.size + b.size
  | .arr n e => n * e.size

def Ty.dflt : (T : Ty) → T.den
  | .int _ => (0 : Int)
  | .bool => false
  | .str => (⟨#[]⟩ : ByteArray)
  | .sl _ => []
  | .unit => ()
  | .pair a b => (a.dflt, b.dflt)
  | .arr n e => List.replicate n e.dflt

/-- The element at an index; the zero value beyond the end. -/
def at_ (T : Ty) (l : List T.den) (i : Int) : T.den := l.getD i.toNat T.dflt

/-- A window of a row. -/
inductive Win where
  | whole
  | part (off n : Nat) (full : Bool)

def Win.app {α : Type} : Win → List α → List α
  | .whole, l => l
  | .part off n _, l => (l.drop off).take n

def Win.isWhole : Win → Bool
  | .whole => true
  | _ => false

/-- A step of a pointer into an array: of n elements of some size, the element i, and cells behind its begin. -/
structure Stp where
  n : Nat
  sz : Nat
  i : Int
  o : Nat

inductive AV where
  | val (T : Ty) (x : T.den)
  | full (T : Ty) (l : List T.den)
  /-- a slice that is not nil -/
  | nn (T : Ty) (l : List T.den)
  | nils
  | agg (gs : List AV)
  | tup (vs : List AV)
  | nilp
  | ptr (b off : Nat) (p : List Stp)
  | rptr (b : Nat) (i : Int) (o : Nat)
  | eptr (gs : List AV)
  | row (b : Nat) (w : Win)
  /-- a window of an array variable: its box, its place there, its length, where the window begins, its length -/
  | vsl (b off n lo len : Nat)
  | fn (f : FuncId) (caps : List AV)
  | nilf
  /-- the function that a loop over a function hands down -/
  | yld (b : Nat)
  | iface (t : TypeId) (v : AV)
  | nili
  | junk

inductive Box where
  | var (gs : List AV)
  | row (T : Ty) (fz : Bool) (l : List T.den)
  /-- the record of a loop over a function: is a round under way; its function, the number of the loop in it; the slots at its entry -/
  | loop (busy : Bool) (f id : Nat) (env : List (Nat × AV))
  /-- such a record behind its loop -/
  | dead

abbrev Env := List (Nat × AV)
abbrev Bxs := List (Nat × Box)

structure St where
  env : Env
  stk : List Env
  bxs : Bxs

def find {α : Type} : List (Nat × α) → Nat → Option α
  | [], _ => none
  | (k, v) :: l, n => bif Nat.beq k n then some v else find l n

def setB : Bxs → Nat → Box → Bxs
  | [], k, b => [(k, b)]
  | (j, c) :: l, k, b => bif Nat.beq j k then (k, b) :: l else (j, c) :: setB l k b

/-! Groups: a value's cells, an array's cells being one group. -/
def AV.size : AV → Nat
  | .val T _ => T.size
  | _ => 1

def gsSize : List AV → Nat
  | [] => 0
  | g :: gs => g.size + gsSize gs

def Ty.gs : (T : Ty) → T.den → List AV
  | .unit, _ => []
  | .pair a b, x => a.gs x.1 ++ b.gs x.2
  | .int k, x => [.val (.int k) x]
  | .bool, x => [.val .bool x]
  | .str, x => [.val .str x]
  | .sl e, x => [.val (.sl e) x]
  | .arr n e, x => [.val (.arr n e) x]

/-- A value's groups. -/
def AV.gs : AV → List AV
  | .agg gs => gs
  | v => [v]

/-- A typed value as an abstract one. -/
def Ty.av (T : Ty) (x : T.den) : AV :=
  match T, x with
  | .pair a b, x => .agg (Ty.gs (.pair a b) x)
  | .unit, _ => .agg []
  | T, x => .val T x

def dropGs : List AV → Nat → Option (List AV)
  | gs, 0 => some gs
  | [], _ + 1 => none
  | g :: gs, n + 1 => bif Nat.ble g.size (n + 1) then dropGs gs (n + 1 - g.size) else none

def takeGs : List AV → Nat → Option (List AV)
  | _, 0 => some []
  | [], _ + 1 => none
  | g :: gs, n + 1 => bif Nat.ble g.size (n + 1) then (takeGs gs (n + 1 - g.size)).map (g :: ·) else none

/-- Groups with others in the place of some, from a cell on. -/
def putGs : List AV → Nat → List AV → Option (List AV)
  | gs, 0, new => (dropGs gs (gsSize new)).map (new ++ ·)
  | [], _ + 1, _ => none
  | g :: gs, n + 1, new => bif Nat.ble g.size (n + 1) then (putGs gs (n + 1 - g.size) new).map (g :: ·) else none

/-- One group as a typed value: a row must be frozen. -/
def conv (bx : Bxs) (T : Ty) (v : AV) : Option T.den :=
  match v with
  | .val S x => if h : S = T then some (h ▸ x) else none
  | .full S l => if h : Ty.sl S = T then some (h ▸ (show (Ty.sl S).den from l)) else none
  | .nn S l => if h : Ty.sl S = T then some (h ▸ (show (Ty.sl S).den from l)) else none
  | .nils => match T with
    | .sl _ => some []
    | _ => none
  | .row b w => match find bx b with
    | some (.row S true l) => if h : Ty.sl S = T then some (h ▸ (show (Ty.sl S).den from w.app l)) else none
    | _ => none
  | _ => none

/-- Groups as a typed value, and what is left. -/
def Ty.rd (bx : Bxs) : (T : Ty) → List AV → Option (T.den × List AV)
  | .unit, l => some ((), l)
  | .pair a b, l => match a.rd bx l with
    | some (x, l) => match b.rd bx l with
      | some (y, l) => some ((x, y), l)
      | none => none
    | none => none
  | T, v :: l => match conv bx T v with
    | some x => some (x, l)
    | none => none
  | _, [] => none

def AV.isAgg : AV → Bool
  | .agg _ => true
  | .val (.arr _ _) _ => true
  | _ => false

def Ty.isAgg : Ty → Bool
  | .pair _ _ | .unit | .arr _ _ => true
  | _ => false

/-- A value as a typed one. -/
def norm (bx : Bxs) (T : Ty) (v : AV) : Option T.den :=
  match T.rd bx v.gs with
  | some (x, []) => bif v.isAgg == T.isAgg then some x else none
  | _ => none

/-- Part of a typed value, from a cell on, replaced. -/
def Ty.put (bx : Bxs) (T : Ty) (x : T.den) (o : Nat) (new : List AV) : Option T.den :=
  match putGs (T.gs x) o new with
  | some gs => match T.rd bx gs with
    | some (y, []) => some y
    | _ => none
  | none => none

/-- A value that has cells. -/
def AV.okGs : AV → Bool
  | .junk | .tup _ => false
  | _ => true

/-- A value that is one cell. -/
def AV.single : AV → Bool
  | .agg _ | .tup _ | .junk => false
  | .val (.arr _ _) _ | .val (.pair _ _) _ | .val .unit _ => false
  | _ => true

/-! Types of the program. -/
inductive UT where
  | int (k : IntKind) | bool | str | ptr (e : Nat) | sl (e : Nat) | arr (n e : Nat) | st (fs : List (Nat × Nat))
  | fn | iface | map (k e : Nat) | tup | oth

structure HSpec where
  params : List Ty
  res : List Ty
  fn : List AV → Option (List AV)

structure Fun where
  code : Code
  ntmps : Nat
  res : List (ResultVar)
  np : Nat

structure Cfg where
  unders : List UT
  sizes : List Nat
  tys : List (Option Ty)
  bytes : List Nat
  zeros : List (Option (List AV))
  glob : Nat → Option AV
  /-- structs of numbers, bools and strings alone, that may be compared -/
  eqs : List Nat := []

def Cfg.under (C : Cfg) (t : Nat) : UT := C.unders.getD t .oth
def Cfg.size (C : Cfg) (t : Nat) : Nat := C.sizes.getD t 0
def Cfg.ty (C : Cfg) (t : Nat) : Option Ty := C.tys.getD t none
def Cfg.zero (C : Cfg) (t : Nat) : Option (List AV) := C.zeros.getD t none

def UT.agg : UT → Bool
  | .st _ | .arr _ _ => true
  | _ => false

/-! Constants. -/
mutual
def ofConst : Value → Option AV
  | .int k n => some (.val (.int k) n)
  | .bool b => some (.val .bool b)
  | .string s => some (.val .str s)
  | .slice none 0 0 => some .nils
  | .pointer none => some .nilp
  | .nilFunc => some .nilf
  | .nilIface => some .nili
  | _ => none
end

def ev (C : Cfg) (env : Env) : Operand → Option AV
  | .tmp t => find env t
  | .const v => ofConst v
  | .global g => C.glob g
  | .func f => some (.fn f [])

/-! Effects. -/
inductive Eff where
  | none
  | add (k : Nat) (b : Box)
  | upd (k : Nat) (b : Box)
  | app (k : Nat) (b : Box)

mutual
def AV.has (k : Nat) : AV → Bool
  | .row b _ => Nat.beq b k
  | .rptr b _ _ => Nat.beq b k
  | .agg gs => hasL k gs
  | .tup gs => hasL k gs
  | .fn _ gs => hasL k gs
  | .iface _ v => v.has k
  | _ => false
def hasL (k : Nat) : List AV → Bool
  | [] => false
  | g :: gs => g.has k || hasL k gs
end

def AV.stale (k : Nat) (v : AV) : AV := bif v.has k then .junk else v
def staleL (k : Nat) : List AV → List AV
  | [] => []
  | g :: gs => g.stale k :: staleL k gs
def staleE (k : Nat) : Env → Env
  | [] => []
  | (n, v) :: l => (n, v.stale k) :: staleE k l
def staleS (k : Nat) : List Env → List Env
  | [] => []
  | e :: l => staleE k e :: staleS k l
def staleB (k : Nat) : Bxs → Bxs
  | [] => []
  | (n, .var gs) :: l => (n, .var (staleL k gs)) :: staleB k l
  | (n, .loop u f i env) :: l => (n, .loop u f i (staleE k env)) :: staleB k l
  | (n, b) :: l => (n, b) :: staleB k l

def Eff.apply (e : Eff) (s : St) : St :=
  match e with
  | .none => s
  | .add k b => { s with bxs := (k, b) :: s.bxs }
  | .upd k b => { s with bxs := setB s.bxs k b }
  | .app k b => { env := staleE k s.env, stk := staleS k s.stk, bxs := setB (staleB k s.bxs) k b }

/-! Operations. -/
def shlV (k : IntKind) (x y : Int) : Int := k.wrap (x * 2 ^ (min y.toNat k.bits))
def shrV (k : IntKind) (x y : Int) : Int := x.fdiv (2 ^ (min y.toNat k.bits))
def andV (k : IntKind) (x y : Int) : Int := k.wrap (BitVec.ofInt k.bits x &&& BitVec.ofInt k.bits y).toNat
def orV (k : IntKind) (x y : Int) : Int := k.wrap (BitVec.ofInt k.bits x ||| BitVec.ofInt k.bits y).toNat
def xorV (k : IntKind) (x y : Int) : Int := k.wrap (BitVec.ofInt k.bits x ^^^ BitVec.ofInt k.bits y).toNat
def andNotV (k : IntKind) (x y : Int) : Int := k.wrap (BitVec.ofInt k.bits x &&& ~~~ BitVec.ofInt k.bits y).toNat

abbrev R3 := Option (Bool × AV × Eff)
def ok (v : AV) : R3 := some (true, v, .none)
def okIf (c : Bool) (v : AV) : R3 := some (c, v, .none)
def okB (b : Bool) : R3 := some (true, .val .bool b, .none)

def intOp (op : BinOp) (k : IntKind) (x y : Int) : R3 :=
  match op with
  | .add => ok (.val (.int k) (k.wrap (x + y)))
  | .sub => ok (.val (.int k) (k.wrap (x - y)))
  | .mul => ok (.val (.int k) (k.wrap (x * y)))
  | .quo => okIf (decide (y ≠ 0)) (.val (.int k) (k.wrap (x.tdiv y)))
  | .rem => okIf (decide (y ≠ 0)) (.val (.int k) (x.tmod y))
  | .and => ok (.val (.int k) (andV k x y))
  | .or => ok (.val (.int k) (orV k x y))
  | .xor => ok (.val (.int k) (xorV k x y))
  | .andNot => ok (.val (.int k) (andNotV k x y))
  | .eql => okB (decide (x = y))
  | .neq => okB (decide (x ≠ y))
  | .lss => okB (decide (x < y))
  | .leq => okB (decide (x ≤ y))
  | .gtr => okB (decide (x > y))
  | .geq => okB (decide (x ≥ y))
  | .shl => okIf (decide (0 ≤ y)) (.val (.int k) (shlV k x y))
  | .shr => okIf (decide (0 ≤ y)) (.val (.int k) (shrV k x y))

def catOk (x y : ByteArray) : Bool := decide (x.size + y.size ≤ 9223372036854775807)
def strLt (x y : ByteArray) : Bool := Op.bytesLess x.toList y.toList
def strOp (op : BinOp) (x y : ByteArray) : R3 :=
  match op with
  | .add => okIf (catOk x y) (.val .str (x ++ y))
  | .eql => okB (decide (x = y))
  | .neq => okB (!decide (x = y))
  | .lss => okB (strLt x y)
  | .leq => okB (strLt x y || decide (x = y))
  | .gtr => okB (!(strLt x y || decide (x = y)))
  | .geq => okB (!strLt x y)
  | _ => none

/-- Equality of structs of whole numbers, bools and strings, field by field. -/
def eqGs (C : Cfg) : List (Nat × Nat) → List AV → List AV → Option Bool
  | [], [], [] => some true
  | (_, t) :: fs, .val (.int k) x :: a, .val (.int j) y :: b => match C.under t with
    | .int _ => if k = j then (eqGs C fs a b).map (decide ((show Int from x) = (show Int from y)) && ·) else none
    | _ => none
  | (_, t) :: fs, .val .bool x :: a, .val .bool y :: b => match C.under t with
    | .bool => (eqGs C fs a b).map (decide ((show Bool from x) = (show Bool from y)) && ·)
    | _ => none
  | (_, t) :: fs, .val .str x :: a, .val .str y :: b => match C.under t with
    | .str => (eqGs C fs a b).map (decide ((show ByteArray from x) = (show ByteArray from y)) && ·)
    | _ => none
  | _, _, _ => none

def eqV (op : BinOp) (c : Bool) : R3 :=
  match op with
  | .eql => okB c
  | .neq => okB (!c)
  | _ => none

def binV (C : Cfg) (op : BinOp) (t : Nat) (x y : AV) : R3 :=
  match x, y with
  | .val (.int k) a, .val (.int j) b => match op with
    | .shl | .shr => intOp op k a b
    | _ => if k = j then intOp op k a b else none
  | .val .str a, .val .str b => strOp op a b
  | .val .bool a, .val .bool b => match C.under t with
    | .bool => eqV op (decide ((show Bool from a) = (show Bool from b)))
    | _ => none
  | .nilp, .nilp => match C.under t with
    | .ptr _ => eqV op true
    | _ => none
  | .ptr .., .nilp | .rptr .., .nilp | .eptr .., .nilp => match C.under t with
    | .ptr _ => eqV op false
    | _ => none
  | .nils, .nils => match C.under t with
    | .sl _ => eqV op true
    | _ => none
  | .nn .., .nils => match C.under t with
    | .sl _ => eqV op false
    | _ => none
  | .nilf, .nilf => match C.under t with
    | .fn => eqV op true
    | _ => none
  | .fn .., .nilf => match C.under t with
    | .fn => eqV op false
    | _ => none
  | .agg a, .agg b => match C.under t with
    | .st fs => if C.eqs.contains t = true then match eqGs C fs a b with
        | some c => eqV op c
        | none => none
      else none
    | _ => none
  | _, _ => none

def unV (op : UnOp) (x : AV) : R3 :=
  match op, x with
  | .neg, .val (.int k) n => ok (.val (.int k) (k.wrap (0 - n)))
  | .xor, .val (.int k) n => ok (.val (.int k) (xorV k (if k.signed then -1 else k.max) n))
  | .not, .val .bool b => ok (.val .bool (!b))
  | _, _ => none

/-- What a slice reads as. -/
def viewT (C : Cfg) (bx : Bxs) (e : Nat) (v : AV) : Option ((T : Ty) × List T.den) :=
  match v with
  | .val (.sl T) l => some ⟨T, l⟩
  | .full T l => some ⟨T, l⟩
  | .nn T l => some ⟨T, l⟩
  | .nils => match C.ty e with
    | some T => some ⟨T, []⟩
    | none => none
  | .row b w => match find bx b with
    | some (.row T _ l) => some ⟨T, w.app l⟩
    | _ => none
  | _ => none

def ofBytes (l : List Int) : ByteArray := ⟨(l.map fun n => UInt8.ofNat n.toNat).toArray⟩
def toBytes (s : ByteArray) : List Int := s.data.toList.map fun b => (b.toNat : Int)
def byteAt (s : ByteArray) (i : Int) : Int := ((s.data.toList.getD i.toNat 0).toNat : Int)

def inR (i : Int) (n : Nat) : Bool := decide (0 ≤ i) && decide (i < n)

/-- The cells at a place of a box. -/
def gsAt : List AV → List Stp → Option (List AV)
  | gs, [] => some gs
  | .val (.arr n T) l :: _, s :: p => if n = s.n ∧ T.size = s.sz then match dropGs (T.gs (at_ T l s.i)) s.o with
      | some gs => gsAt gs p
      | none => none
    else none
  | _, _ => none

def loadAt (C : Cfg) (t : Nat) (gs : List AV) : R3 :=
  match C.under t with
  | .st _ => if C.size t = 0 then none else match takeGs gs (C.size t) with
    | some gs => ok (.agg gs)
    | none => none
  | .arr n _ => match gs with
    | .val (.arr m T) l :: _ => if n = m ∧ C.size t = m * T.size ∧ C.size t ≠ 0 then ok (.val (.arr m T) l) else none
    | _ => none
  | .oth | .tup => none
  | _ => match gs with
    | g :: _ => if g.single = true then ok g else none
    | [] => none

def loadV (C : Cfg) (bx : Bxs) (t : Nat) (a : AV) : R3 :=
  match a with
  | .eptr gs => loadAt C t gs
  | .ptr b off p => match find bx b with
    | some (.var gs) => match dropGs gs off with
      | some gs => match gsAt gs p with
        | some gs => loadAt C t gs
        | none => none
      | none => none
    | _ => none
  | .rptr b i o => match find bx b with
    | some (.row T _ l) => match dropGs (T.gs (at_ T l i)) o with
      | some gs => loadAt C t gs
      | none => none
    | _ => none
  | _ => none

/-- Groups in which, at a place, others stand. -/
def putAt (bx : Bxs) : List AV → Nat → List Stp → List AV → Option (List AV)
  | gs, off, [], new => putGs gs off new
  | gs, off, s :: p, new => match dropGs gs off with
    | some (.val (.arr n T) l :: _) => if n = s.n ∧ T.size = s.sz then
        match putAt bx (T.gs (at_ T l s.i)) s.o p new with
        | some es => match T.rd bx es with
          | some (y, []) => putGs gs off [.val (.arr n T) (l.set s.i.toNat y)]
          | _ => none
        | none => none
      else none
    | _ => none

def storeV (C : Cfg) (bx : Bxs) (t : Nat) (a v : AV) : R3 :=
  if v.okGs = true ∧ gsSize v.gs = C.size t ∧ C.size t ≠ 0 then
    match a with
    | .ptr b off p => match find bx b with
      | some (.var gs) => match putAt bx gs off p v.gs with
        | some gs => some (true, .tup [], .upd b (.var gs))
        | none => none
      | _ => none
    | .rptr b i o => match find bx b with
      | some (.row T false l) => match T.put bx (at_ T l i) o v.gs with
        | some y => some (true, .tup [], .upd b (.row T false (l.set i.toNat y)))
        | none => none
      | _ => none
    | _ => none
  else none

def fieldOff (C : Cfg) (s f : Nat) : Option (Nat × Nat) :=
  match C.under s with
  | .st fs => fs[f]?
  | _ => none

def addP : List Stp → Nat → List Stp
  | [], _ => []
  | [s], o => [{ s with o := s.o + o }]
  | s :: p, o => s :: addP p o

def fieldAddrV (C : Cfg) (s : Nat) (a : AV) (f : Nat) : R3 :=
  match fieldOff C s f with
  | some (o, ft) => if C.size ft = 0 then none else match a with
    | .eptr gs => match dropGs gs o with
      | some gs => ok (.eptr gs)
      | none => none
    | .ptr b off [] => ok (.ptr b (off + o) [])
    | .ptr b off p => ok (.ptr b off (addP p o))
    | .rptr b i j => ok (.rptr b i (j + o))
    | _ => none
  | none => none

def fieldV (C : Cfg) (s : Nat) (x : AV) (f : Nat) : R3 :=
  match fieldOff C s f, x with
  | some (o, t), .agg gs => match dropGs gs o with
    | some gs => loadAt C t gs
    | none => none
  | _, _ => none

/-- The number in an index. -/
def idx (v : AV) : Option Int :=
  match v with
  | .val (.int _) i => some i
  | _ => none

def indexAddrV (C : Cfg) (bx : Bxs) (t : Nat) (a iv : AV) : R3 :=
  match idx iv with
  | none => none
  | some i => match C.under t with
    | .arr n e => if C.size e = 0 then none else match a with
      | .eptr (.val (.arr m T) l :: _) => if n = m ∧ T.size = C.size e then okIf (inR i n) (.eptr (T.gs (at_ T l i))) else none
      | .ptr b off p => okIf (inR i n) (.ptr b off (p ++ [⟨n, C.size e, i, 0⟩]))
      | _ => none
    | .sl e => if C.size e = 0 then none else match a with
      | .row b .whole => match find bx b with
        | some (.row T _ l) => if T.size = C.size e then okIf (inR i l.length) (.rptr b i 0) else none
        | _ => none
      | .row b (.part off n _) => match find bx b with
        | some (.row T _ _) => if T.size = C.size e then okIf (inR i n) (.rptr b (off + i) 0) else none
        | _ => none
      | .vsl b off m lo n => if C.size e = 1 then okIf (inR i n) (.ptr b off [⟨m, 1, lo + i, 0⟩]) else none
      | a => match viewT C bx e a with
        | some ⟨T, l⟩ => if T.size = C.size e then okIf (inR i l.length) (.eptr (T.gs (at_ T l i))) else none
        | none => none
    | _ => none

def indexV (C : Cfg) (t : Nat) (x iv : AV) : R3 :=
  match idx iv with
  | none => none
  | some i => match C.under t, x with
    | .str, .val .str s => okIf (inR i s.size) (.val (.int .u8) (byteAt s i))
    | .arr n e, .val (.arr m T) l => if n = m ∧ T.size = C.size e ∧ C.size e ≠ 0 then match loadAt C e (T.gs (at_ T l i)) with
        | some (_, v, _) => okIf (inR i n) v
        | none => none
      else none
    | _, _ => none

/-- A part of a list, by bounds that may be missing. -/
def cutL {α : Type} (l : List α) (lo hi : Option Int) : List α :=
  match lo, hi with
  | none, none => l
  | some a, none => l.drop a.toNat
  | none, some b => l.take b.toNat
  | some a, some b => (l.take b.toNat).drop a.toNat

def cutOk (n : Nat) (lo hi : Option Int) : Bool :=
  match lo, hi with
  | none, none => true
  | some a, none => decide (0 ≤ a) && decide (a ≤ n)
  | none, some b => decide (0 ≤ b) && decide (b ≤ n)
  | some a, some b => decide (0 ≤ a) && decide (a ≤ b) && decide (b ≤ n)

def cutHi (n : Nat) : Option Int → Nat
  | some h => h.toNat
  | none => n

def cutS (s : ByteArray) (lo hi : Option Int) : ByteArray := s.extract ((lo.getD 0).toNat) (cutHi s.size hi)

def idxO (C : Cfg) (env : Env) : Option Operand → Option (Option Int)
  | none => some none
  | some x => match ev C env x with
    | some v => match idx v with
      | some i => some (some i)
      | none => none
    | none => none

/-- Where a cut begins, and how long it is. -/
def cutFrom (lo : Option Int) : Nat := (lo.getD 0).toNat
def cutLen (n : Nat) (lo hi : Option Int) : Nat := cutHi n hi - cutFrom lo

def sliceV (C : Cfg) (bx : Bxs) (t : Nat) (x : AV) (lo hi mx : Option Int) : R3 :=
  match C.under t with
  | .str => match x, mx with
    | .val .str s, none => okIf (cutOk s.size lo hi) (.val .str (cutS s lo hi))
    | _, _ => none
  | .sl e => if C.size e = 0 then none else match x with
    | .row b w => match find bx b with
      | some (.row T _ l) => if T.size = C.size e then
          match mx with
          | none => match w with
            | .whole => okIf (cutOk l.length lo hi) (.row b (.part (cutFrom lo) (cutLen l.length lo hi) false))
            | .part off n _ => okIf (cutOk n lo hi) (.row b (.part (off + cutFrom lo) (cutLen n lo hi) false))
          | some m => match w, hi with
            | .whole, some h => okIf (cutOk l.length lo hi && decide (h = m)) (.row b (.part (cutFrom lo) (cutLen l.length lo hi) true))
            | _, _ => none
        else none
      | _ => none
    | x => match viewT C bx e x with
      | some ⟨T, l⟩ => if T.size = C.size e then match mx with
          | none => okIf (cutOk l.length lo hi) (.val (.sl T) (cutL l lo hi))
          | some m => match hi with
            | some h => okIf (cutOk l.length lo (some h) && decide (h = m)) (.val (.sl T) (cutL l lo (some h)))
            | none => none
        else none
      | none => none
  | .arr n e => match x, mx with
    | .ptr b off [], none => if C.size e = 1 then okIf (cutOk n lo hi) (.vsl b off n (cutFrom lo) (cutLen n lo hi)) else none
    | _, _ => none
  | _ => none

/-- What a slice reads as, windows of arrays among them. -/
def viewA (C : Cfg) (bx : Bxs) (e : Nat) (v : AV) : Option ((T : Ty) × List T.den) :=
  match v with
  | .vsl b off m lo n => match find bx b with
    | some (.var gs) => match dropGs gs off with
      | some (.val (.arr k T) l :: _) => if k = m ∧ T.size = 1 then some ⟨T, (l.drop lo).take n⟩ else none
      | _ => none
    | _ => none
  | v => viewT C bx e v

def appLim : Nat := 1073741824

/-- What is appended. -/
def moreV (C : Cfg) (bx : Bxs) (e : Nat) (y : AV) : Option ((T : Ty) × List T.den) :=
  match y with
  | .val .str s => some ⟨.int .u8, toBytes s⟩
  | y => viewA C bx e y

def slOrStr : UT → Bool
  | .sl _ | .str => true
  | _ => false

def appendV (C : Cfg) (bx : Bxs) (key t : Nat) (x y : AV) (yt : Nat) : R3 :=
  match C.under t with
  | .sl e => match moreV C bx e y with
    | none => none
    | some ⟨S, m⟩ => if C.ty e = some S ∧ C.size e ≠ 0 ∧ slOrStr (C.under yt) = true then
        match x with
        | .nils => some (decide (m.length ≤ appLim), .row key .whole, .add key (.row S false m))
        | .full _ [] => some (decide (m.length ≤ appLim), .row key .whole, .add key (.row S false m))
        | .full T l => if h : S = T then some (decide (l.length + m.length ≤ appLim) && !m.isEmpty, .row key .whole, .add key (.row T false (l ++ (h ▸ m)))) else none
        | .row b w => match find bx b with
          | some (.row T fz l) => if h : S = T then
              bif (!fz || w.isWhole) then
                some (decide ((w.app l).length + m.length ≤ appLim), .row b .whole, .app b (.row T fz (w.app l ++ (h ▸ m))))
              else none
            else none
          | _ => none
        | _ => none
      else none
  | _ => none

def minV : List AV → Option AV
  | [.val (.int k) a, .val (.int _) b] => some (.val (.int k) (if (show Int from b) < (show Int from a) then b else a))
  | _ => none
def maxV : List AV → Option AV
  | [.val (.int k) a, .val (.int _) b] => some (.val (.int k) (if (show Int from b) > (show Int from a) then b else a))
  | _ => none

def lenV (C : Cfg) (bx : Bxs) (t : Nat) (x : AV) : R3 :=
  match C.under t, x with
  | .str, .val .str s => ok (.val (.int .i64) (s.size : Int))
  | .arr n _, _ => ok (.val (.int .i64) (n : Int))
  | .ptr a, _ => match C.under a with
    | .arr n _ => ok (.val (.int .i64) (n : Int))
    | _ => none
  | .sl _, .vsl _ _ _ _ n => ok (.val (.int .i64) (n : Int))
  | .sl e, x => match viewT C bx e x with
    | some ⟨_, l⟩ => ok (.val (.int .i64) (l.length : Int))
    | none => none
  | _, _ => none

def setRange {α : Type} (l : List α) (lo : Nat) (m : List α) : List α := l.take lo ++ m ++ l.drop (lo + m.length)

def copyV (C : Cfg) (bx : Bxs) (t : Nat) (x y : AV) : R3 :=
  match C.under t with
  | .sl e => if C.size e = 1 then match moreV C bx e y with
    | none => none
    | some ⟨S, m⟩ => match x with
      | .vsl b off q lo n => match find bx b with
        | some (.var gs) => match dropGs gs off with
          | some (.val (.arr k T) l :: _) => if h : S = T ∧ k = q ∧ T.size = 1 then
              match putGs gs off [.val (.arr k T) (setRange l lo ((h.1 ▸ m : List T.den).take n))] with
              | some gs => some (true, .val (.int .i64) (((m.take n).length : Nat) : Int), .upd b (.var gs))
              | none => none
            else none
          | _ => none
        | _ => none
      | _ => none
    else none
  | _ => none

/-- The groups of a struct that is built of parts. -/
def buildSt (C : Cfg) (fs : List (Nat × Nat)) : List (Nat × AV) → List AV → Option (List AV)
  | [], gs => some gs
  | (i, v) :: ps, gs => match fs[i]? with
    | some (o, t) => if v.okGs = true ∧ gsSize v.gs = C.size t ∧ C.size t ≠ 0 then match putGs gs o v.gs with
        | some gs => buildSt C fs ps gs
        | none => none
      else none
    | none => none

/-- The elements of a slice or an array that is built of parts. -/
def buildL (bx : Bxs) (T : Ty) : List (Nat × AV) → List T.den → Option (List T.den)
  | [], l => some l
  | (i, v) :: ps, l => if v.okGs = true ∧ i < l.length then match norm bx T v with
      | some x => buildL bx T ps (l.set i x)
      | none => none
    else none

def evL (C : Cfg) (env : Env) : List Operand → Option (List AV)
  | [] => some []
  | x :: l => match ev C env x with
    | some v => (evL C env l).map (v :: ·)
    | none => none

def evP (C : Cfg) (env : Env) : List (Nat × Operand) → Option (List (Nat × AV))
  | [] => some []
  | (i, x) :: l => match ev C env x with
    | some v => (evP C env l).map ((i, v) :: ·)
    | none => none

def buildV (C : Cfg) (bx : Bxs) (t : Nat) (parts : List (Nat × AV)) : R3 :=
  match C.under t with
  | .st fs => match C.zero t with
    | some gs => if fs.all (fun f => !Nat.beq (C.size f.2) 0) = true then match buildSt C fs parts gs with
        | some gs => ok (.agg gs)
        | none => none
      else none
    | none => none
  | .arr n e => match C.ty t with
    | some (.arr m T) => if n = m ∧ T.size = C.size e ∧ C.size e ≠ 0 then match buildL bx T parts (List.replicate m T.dflt) with
        | some l => ok (.val (.arr m T) l)
        | none => none
      else none
    | _ => none
  | _ => none

def buildSliceV (C : Cfg) (bx : Bxs) (t len : Nat) (parts : List (Nat × AV)) : R3 :=
  match C.under t with
  | .sl e => match C.ty e with
    | some T => if C.size e ≠ 0 ∧ len * C.size e ≤ 16777216 then match buildL bx T parts (List.replicate len T.dflt) with
        | some l => ok (.full T l)
        | none => none
      else none
    | none => none
  | _ => none

def convertV (C : Cfg) (bx : Bxs) (key src dst : Nat) (x : AV) : R3 :=
  match C.under src, C.under dst, x with
  | .int _, .int k, .val (.int _) n => ok (.val (.int k) (k.wrap n))
  | .str, .str, .val .str s => ok (.val .str s)
  | .sl e, .str, x => match C.under e with
    | .int .u8 => match viewA C bx e x with
      | some ⟨.int .u8, l⟩ => ok (.val .str (ofBytes l))
      | _ => none
    | _ => none
  | .str, .sl e, .val .str s => match C.under e with
    | .int .u8 => some (true, .row key .whole, .add key (.row (.int .u8) false (toBytes s)))
    | _ => none
  | _, _, _ => none

def makeSliceV (C : Cfg) (key t : Nat) (n c : AV) : R3 :=
  match C.under t, idx n, idx c with
  | .sl e, some n, some c => match C.ty e with
    | some T => if C.size e ≠ 0 then some (decide (0 ≤ n) && decide (n ≤ c) && decide (c ≤ appLim), .row key .whole, .add key (.row T false (List.replicate n.toNat T.dflt))) else none
    | none => none
  | _, _, _ => none

/-- What is captured: variables. -/
def capsOk : List AV → Bool
  | [] => true
  | .ptr _ 0 [] :: l => capsOk l
  | _ => false

def keyFree (bx : Bxs) (k : Nat) (r : R3) : R3 :=
  match find bx k with
  | some _ => none
  | none => r

def execA (C : Cfg) (base : Nat) (o : Oper) (s : St) : R3 :=
  let key := base + (o.dst.getD 0)
  match o.op with
  | .move x | .assign x => match ev C s.env x with
    | some v => ok v
    | none => none
  | .alloc t => match C.zero t with
    | some gs => keyFree s.bxs key (some (true, .ptr key 0 [], .add key (.var gs)))
    | none => none
  | .box _ x => match ev C s.env x with
    | some v => if v.okGs = true then keyFree s.bxs key (some (true, .ptr key 0 [], .add key (.var v.gs))) else none
    | none => none
  | .build t parts => match evP C s.env parts.toList with
    | some ps => buildV C s.bxs t ps
    | none => none
  | .buildSlice t n parts => match evP C s.env parts.toList with
    | some ps => buildSliceV C s.bxs t n ps
    | none => none
  | .load t a => match ev C s.env a with
    | some a => loadV C s.bxs t a
    | none => none
  | .store t a x => match ev C s.env a, ev C s.env x with
    | some a, some v => storeV C s.bxs t a v
    | _, _ => none
  | .nilCheck x => match ev C s.env x with
    | some (.ptr b off p) => ok (.ptr b off p)
    | some (.rptr b i j) => ok (.rptr b i j)
    | some (.eptr gs) => ok (.eptr gs)
    | _ => none
  | .binOp op t x y _ => match ev C s.env x, ev C s.env y with
    | some a, some b => binV C op t a b
    | _, _ => none
  | .unOp op _ x => match ev C s.env x with
    | some a => unV op a
    | none => none
  | .convert src dst x => match ev C s.env x with
    | some a => match convertV C s.bxs key src dst a with
      | some (c, v, .add k b) => keyFree s.bxs key (some (c, v, .add k b))
      | r => r
    | none => none
  | .makeFunc (.func f) first captured => match first.toList, evL C s.env captured.toList with
    | [], some l => if capsOk l = true then ok (.fn f l) else none
    | _, _ => none
  | .makeSlice t n c => match ev C s.env n, ev C s.env c with
    | some n, some c => keyFree s.bxs key (makeSliceV C key t n c)
    | _, _ => none
  | .slice t x lo hi mx => match ev C s.env x, idxO C s.env lo, idxO C s.env hi, idxO C s.env mx with
    | some v, some lo, some hi, some mx => sliceV C s.bxs t v lo hi mx
    | _, _, _, _ => none
  | .fieldAddr t x f => match ev C s.env x with
    | some a => fieldAddrV C t a f
    | none => none
  | .field t x f => match ev C s.env x with
    | some a => fieldV C t a f
    | none => none
  | .indexAddr t x i => match ev C s.env x, ev C s.env i with
    | some a, some i => indexAddrV C s.bxs t a i
    | _, _ => none
  | .index t x i => match ev C s.env x, ev C s.env i with
    | some a, some i => indexV C t a i
    | _, _ => none
  | .extract x i => match ev C s.env x with
    | some (.tup vs) => match vs[i]? with
      | some v => ok v
      | none => none
    | _ => none
  | .call { callee := .builtin b, args, argTypes } => match evL C s.env args.toList with
    | some vs => match b, argTypes.toList, vs with
      | .len, [t], [x] => lenV C s.bxs t x
      | .append, [t, yt], [x, y] => match appendV C s.bxs key t x y yt with
        | some (c, v, .add k b) => keyFree s.bxs key (some (c, v, .add k b))
        | r => r
      | .copy, [t, _], [x, y] => copyV C s.bxs t x y
      | .min, _, vs => match minV vs with
        | some v => ok v
        | none => none
      | .max, _, vs => match maxV vs with
        | some v => ok v
        | none => none
      | _, _, _ => none
    | none => none
  | _ => none

end Go.V
