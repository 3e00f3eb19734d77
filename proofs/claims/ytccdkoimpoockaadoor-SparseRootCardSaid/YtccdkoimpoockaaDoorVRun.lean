/- The abstract run of code: calls by contracts or in place, loops by summaries. -/
import Derived.Test.YtccdkoimpoockaaDoorVDefs
set_option linter.all false
set_option linter.unusedVariables false
set_option linter.unusedSectionVars false
set_option linter.unusedSimpArgs false
namespace Go.V

/-! Shapes of states: what a loop's head or an exit knows. -/
inductive Sh where
  | ty (T : Ty)
  | cst (v : AV)

inductive BSh where
  | var (gs : List Sh)
  | row (T : Ty) (fz : Bool)
  /-- the record of a loop over a function -/
  | loop (busy : Bool) (f id : Nat) (env : List (Nat × Sh))

structure Ann where
  env : List (Nat × Sh)
  stk : List (List (Nat × Sh))
  bxs : List (Nat × BSh)

/-- The typed values that a list of shapes holds. -/
@[reducible] def shDen : List Sh → Type
  | [] => Unit
  | .ty T :: l => T.den × shDen l
  | .cst _ :: l => shDen l

@[reducible] def envDen : List (Nat × Sh) → Type
  | [] => Unit
  | (_, .ty T) :: l => T.den × envDen l
  | (_, .cst _) :: l => envDen l

@[reducible] def stkDen : List (List (Nat × Sh)) → Type
  | [] => Unit
  | e :: l => envDen e × stkDen l

@[reducible] def bxsDen : List (Nat × BSh) → Type
  | [] => Unit
  | (_, .var gs) :: l => shDen gs × bxsDen l
  | (_, .row T _) :: l => List T.den × bxsDen l
  | (_, .loop _ _ _ e) :: l => envDen e × bxsDen l

@[reducible] def Ann.den (A : Ann) : Type := envDen A.env × stkDen A.stk × bxsDen A.bxs

def encSh : (l : List Sh) → shDen l → List AV
  | [], _ => []
  | .ty T :: l, x => .val T x.1 :: encSh l x.2
  | .cst v :: l, x => v :: encSh l x

def encEnv : (l : List (Nat × Sh)) → envDen l → Env
  | [], _ => []
  | (n, .ty T) :: l, x => (n, T.av x.1) :: encEnv l x.2
  | (n, .cst v) :: l, x => (n, v) :: encEnv l x

def encStk : (l : List (List (Nat × Sh))) → stkDen l → List Env
  | [], _ => []
  | e :: l, x => encEnv e x.1 :: encStk l x.2

def encBxs : (l : List (Nat × BSh)) → bxsDen l → Bxs
  | [], _ => []
  | (n, .var gs) :: l, x => (n, .var (encSh gs x.1)) :: encBxs l x.2
  | (n, .row T fz) :: l, x => (n, .row T fz x.1) :: encBxs l x.2
  | (n, .loop u f i e) :: l, x => (n, .loop u f i (encEnv e x.1)) :: encBxs l x.2

def Ann.enc (A : Ann) (x : A.den) : St := { env := encEnv A.env x.1, stk := encStk A.stk x.2.1, bxs := encBxs A.bxs x.2.2 }

/-! Equality of constants. -/
def Win.same : Win → Win → Bool
  | .whole, .whole => true
  | _, _ => false

def capSame : AV → AV → Bool
  | .ptr b o [], .ptr c p [] => Nat.beq b c && Nat.beq o p
  | _, _ => false
def capsSame : List AV → List AV → Bool
  | [], [] => true
  | a :: l, b :: m => capSame a b && capsSame l m
  | _, _ => false
def AV.same (a b : AV) : Bool :=
  match a, b with
  | .nils, .nils => true
  | .nilp, .nilp => true
  | .nilf, .nilf => true
  | .nili, .nili => true
  | .junk, .junk => true
  | .ptr b o [], .ptr c p [] => Nat.beq b c && Nat.beq o p
  | .row b .whole, .row c .whole => Nat.beq b c
  | .fn f l, .fn g m => Nat.beq f g && capsSame l m
  | .tup [], .tup [] => true
  | .yld b, .yld c => Nat.beq b c
  | _, _ => false

section
variable {R : Type}

/-- Rows that a value names, frozen. -/
def frzB (bx : Bxs) (b : Nat) : Bxs :=
  match find bx b with
  | some (.row T false l) => setB bx b (.row T true l)
  | _ => bx
mutual
def frz (bx : Bxs) : AV → Bxs
  | .row b _ => frzB bx b
  | .agg gs => frzL bx gs
  | _ => bx
def frzL (bx : Bxs) : List AV → Bxs
  | [] => bx
  | g :: gs => frzL (frz bx g) gs
end

/-! What is known as a typed value is frozen first. -/
def tyVals (env : Env) : List (Nat × Sh) → List AV
  | [] => []
  | (n, .ty _) :: l => match find env n with
    | some v => v :: tyVals env l
    | none => tyVals env l
  | (_, .cst _) :: l => tyVals env l
def tyValsS : List Env → List (List (Nat × Sh)) → List AV
  | e :: s, l :: r => tyVals e l ++ tyValsS s r
  | _, _ => []
def tyGs : List Sh → List AV → List AV
  | .ty _ :: l, v :: vs => v :: tyGs l vs
  | .cst _ :: l, _ :: vs => tyGs l vs
  | _, _ => []
def tyValsB (bx : Bxs) : List (Nat × BSh) → List AV
  | [] => []
  | (n, .var gs) :: l => match find bx n with
    | some (.var vs) => tyGs gs vs ++ tyValsB bx l
    | _ => tyValsB bx l
  | (_, .row _ _) :: l => tyValsB bx l
  | (n, .loop _ _ _ e) :: l => match find bx n with
    | some (.loop _ _ _ env) => tyVals env e ++ tyValsB bx l
    | _ => tyValsB bx l

/-- A group as a typed value. -/
def dec1 (bx : Bxs) (T : Ty) (v : AV) (K : T.den → Option R) : Option R :=
  match conv bx T v with
  | some x => K x
  | none => none

def decSh (bx : Bxs) : (l : List Sh) → List AV → (shDen l → Option R) → Option R
  | [], [], K => K ()
  | .ty T :: l, v :: vs, K => dec1 bx T v fun x => decSh bx l vs fun y => K (x, y)
  | .cst c :: l, v :: vs, K => bif v.same c then decSh bx l vs K else none
  | _, _, _ => none

def decEnv (bx : Bxs) (env : Env) : (l : List (Nat × Sh)) → (envDen l → Option R) → Option R
  | [], K => K ()
  | (n, .ty T) :: l, K => match find env n with
    | some v => match norm bx T v with
      | some x => decEnv bx env l fun y => K (x, y)
      | none => none
    | none => none
  | (n, .cst c) :: l, K => match find env n with
    | some v => bif v.same c then decEnv bx env l K else none
    | none => none

def decStk (bx : Bxs) : List Env → (l : List (List (Nat × Sh))) → (stkDen l → Option R) → Option R
  | [], [], K => K ()
  | env :: stk, e :: l, K => decEnv bx env e fun x => decStk bx stk l fun y => K (x, y)
  | _, _, _ => none

def decRow (T : Ty) (fz : Bool) (b : Box) (K : List T.den → Option R) : Option R :=
  match b with
  | .row S f l => if h : S = T then (bif (f == fz) then K (h ▸ l) else none) else none
  | _ => none

def decBxs (bx : Bxs) : (l : List (Nat × BSh)) → (bxsDen l → Option R) → Option R
  | [], K => K ()
  | (n, .var gs) :: l, K => match find bx n with
    | some (.var vs) => decSh bx gs vs fun x => decBxs bx l fun y => K (x, y)
    | _ => none
  | (n, .row T fz) :: l, K => match find bx n with
    | some b => decRow T fz b fun x => decBxs bx l fun y => K (x, y)
    | none => none
  | (n, .loop u f i e) :: l, K => match find bx n with
    | some (.loop u' f' i' env) => bif (u' == u) && (Nat.beq f' f && Nat.beq i' i) then decEnv bx env e fun x => decBxs bx l fun y => K (x, y) else none
    | _ => none

def Ann.dec (A : Ann) (s : St) (K : A.den → Option R) : Option R :=
  let bx := frzL s.bxs (tyVals s.env A.env ++ tyValsS s.stk A.stk ++ tyValsB s.bxs A.bxs)
  decEnv bx s.env A.env fun x => decStk bx s.stk A.stk fun y => decBxs bx A.bxs fun z => K (x, y, z)
end

/-! What is laid at a loop's entry: a nil slice, or one whose capacity is its length, becomes a row. -/
inductive Thaw where
  /-- a slot, the row's number, the elements' type -/
  | slot (n b : Nat) (T : Ty)
  /-- a box, the place of the group in it -/
  | cell (k i b : Nat) (T : Ty)

def thawV (b : Nat) (T : Ty) : AV → Option Box
  | .nils => some (.row T false [])
  | .full S l => if h : S = T then some (.row T true (h ▸ l)) else none
  | _ => none

def thaw1 (s : St) : Thaw → Option St
  | .slot n b T => match find s.env n with
    | some (.row c w) => bif Nat.beq c b then (match w with | .whole => some s | _ => none) else none
    | some v => match thawV b T v, find s.bxs b with
      | some bx, none => some { s with env := (n, .row b .whole) :: s.env, bxs := (b, bx) :: s.bxs }
      | _, _ => none
    | none => none
  | .cell k i b T => match find s.bxs k with
    | some (.var gs) => match gs[i]? with
      | some (.row c w) => bif Nat.beq c b then (match w with | .whole => some s | _ => none) else none
      | some v => match thawV b T v, find s.bxs b with
        | some bx, none => some { s with bxs := (b, bx) :: setB s.bxs k (.var (gs.set i (.row b .whole))) }
        | _, _ => none
      | none => none
    | _ => none

def thawAll : List Thaw → St → Option St
  | [], s => some s
  | t :: l, s => match thaw1 s t with
    | some s => thawAll l s
    | none => none

/-- The ways out of a piece of code. -/
inductive Ex where
  | normal | exit (id : Nat) | ret
  deriving DecidableEq

/-- What a loop's summary gives: which way out, and the typed values there. -/
@[reducible] def outDen : List (Ex × Ann) → Type
  | [] => Empty
  | [(_, A)] => A.den
  | (_, A) :: l => A.den ⊕ outDen l

section
variable {R : Type}
def outK (K : Ex → St → Option R) : (l : List (Ex × Ann)) → outDen l → Option R
  | [], o => nomatch o
  | [(e, A)], o => K e (A.enc o)
  | (e, A) :: b :: l, o => Sum.elim (fun x => K e (A.enc x)) (fun y => outK K (b :: l) y) o
end

/-- The values at a way out, found among those that a summary has. -/
def decOut (e : Ex) (s : St) : (l : List (Ex × Ann)) → Option (outDen l)
  | [] => none
  | [(f, A)] => if e = f then A.dec s some else none
  | (f, A) :: b :: l => if e = f then A.dec s (fun x => some (.inl x)) else (decOut e s (b :: l)).map .inr

structure LSpec where
  thaws : List Thaw
  head : Ann
  outs : List (Ex × Ann)
  fn : head.den → Option (outDen outs)

/-- A contract of a pure function: typed arguments, typed results. -/
@[reducible] def tysDen : List Ty → Type
  | [] => Unit
  | T :: l => T.den × tysDen l

/-- The arguments of a function. -/
def tysAV : (l : List Ty) → tysDen l → List AV
  | [], _ => []
  | T :: l, x => T.av x.1 :: tysAV l x.2

/-- Its results. -/
def resAV : (l : List Ty) → tysDen l → AV
  | [T], x => T.av x.1
  | l, x => .tup (tysAV l x)

structure PSpec where
  args : List Ty
  res : List Ty
  fn : tysDen args → Option (tysDen res)

def scalar : Ty → Bool
  | .int _ | .bool | .str | .unit => true
  | .sl _ => false
  | .pair a b => scalar a && scalar b
  | .arr _ e => scalar e

def frzKeys : Bxs → Bxs → Bxs
  | [], bx => bx
  | (k, _) :: l, bx => frzKeys l (frzB bx k)
def frzAll (bx : Bxs) : Bxs := frzKeys bx bx

section
variable {R : Type}
def argsK (bx : Bxs) : (l : List Ty) → List AV → (tysDen l → Option R) → Option R
  | [], [], K => K ()
  | T :: l, v :: vs, K => match norm bx T v with
    | some x => argsK bx l vs fun y => K (x, y)
    | none => none
  | _, _, _ => none
end

/-- Where a loop stands: how many calls in place may still come, the place of the call, the function, the region that the loop begins with. -/
structure Key where
  d : Nat
  base : Nat
  f : Nat
  id : Nat

def Key.beq (a b : Key) : Bool := Nat.beq a.d b.d && Nat.beq a.base b.base && Nat.beq a.f b.f && Nat.beq a.id b.id

/-- A contract of a function that is handed boxes. -/
structure CSpec where
  thaws : List Thaw
  args : List (Nat × Sh)
  ins : List (Nat × BSh)
  res : List Sh
  outs : List (Nat × BSh)
  fn : envDen args × bxsDen ins → Option (shDen res × bxsDen outs)

/-- A contract of a function that returns one slice, of its own. -/
structure RSpec where
  args : List Ty
  T : Ty
  fz : Bool
  fn : tysDen args → Option (List T.den)

structure Env0 where
  C : Cfg
  P : List (Nat × PSpec)
  L : List (Key × LSpec)
  F : List (Nat × Func)
  S : List (Nat × CSpec) := []
  R : List (Nat × RSpec) := []

def findL {α : Type} : List (Key × α) → Key → Option α
  | [], _ => none
  | (k, v) :: l, n => bif k.beq n then some v else findL l n

def firstRegion : Code → Nat
  | .region id _ _ => id
  | .seq a _ => firstRegion a
  | .block _ c => firstRegion c
  | .loop c => firstRegion c
  | .scope c => firstRegion c
  | _ => 0

/-- The number of a loop over a function. -/
def rid (a b : Code) : Nat :=
  match firstRegion a with
  | 0 => firstRegion b
  | n => n

/-- Where its record lies. -/
def loopKey (base : Nat) (a b : Code) : Nat := base + 900 + rid a b % 100

/-- A loop over a function: its variables, their assignment, its body; how many slots its frame has. -/
structure LCode where
  ps : List Nat
  assign : Code
  body : Code
  n : Nat

/-- The loops over functions of a function. -/
def rangesOf (n : Nat) : Code → List (Nat × LCode)
  | .seq a b => rangesOf n a ++ rangesOf n b
  | .cond _ a b => rangesOf n a ++ rangesOf n b
  | .block _ c => rangesOf n c
  | .loop c => rangesOf n c
  | .rangeFunc _ ps a b => [(rid a b, ⟨ps.toList, a, b, n⟩)]
  | _ => []

def noRange : Code → Bool
  | .seq a b => noRange a && noRange b
  | .cond _ a b => noRange a && noRange b
  | .block _ c => noRange c
  | .loop c => noRange c
  | .rangeFunc .. => false
  | _ => true

/-- What is called in place: a function, or the body of a loop over a function. -/
inductive Callee where
  | fn (f : Nat)
  | yld (b : Nat)

def putE (d : Option Tmp) (v : AV) (env : Env) : Env :=
  match d with
  | some d => (d, v) :: env
  | none => env

/-- The values of a function's results. -/
def resOf (C : Cfg) (s : St) : List ResultVar → Option (List AV)
  | [] => some []
  | .tmp t :: l => match find s.env t with
    | some v => bif v.okGs then (resOf C s l).map (v :: ·) else none
    | none => none
  | .cell a t :: l => match find s.env a with
    | some p => match loadV C s.bxs t p with
      | some (_, v, _) => bif v.okGs then (resOf C s l).map (v :: ·) else none
      | none => none
    | none => none

def tup1 : List AV → AV
  | [v] => v
  | l => .tup l

def params : Nat → List AV → Env
  | _, [] => []
  | n, v :: l => (n, v) :: params (n + 1) l

def encV : (l : List Sh) → shDen l → List AV
  | [], _ => []
  | .ty T :: l, x => T.av x.1 :: encV l x.2
  | .cst v :: l, x => v :: encV l x

def rowKeys : List (Nat × BSh) → List Nat
  | [] => []
  | (k, .row _ _) :: l => k :: rowKeys l
  | (_, .var _) :: l => rowKeys l
  | (_, .loop _ _ _ _) :: l => rowKeys l

/-- Pointers to the variables that are handed down. -/
def varPtrs : Nat → List (Nat × BSh) → Env
  | _, [] => []
  | n, (k, .var _) :: l => (n, .ptr k 0 []) :: varPtrs (n + 1) l
  | n, (_, .row _ _) :: l => varPtrs n l
  | n, (_, .loop _ _ _ _) :: l => varPtrs n l

def staleAll : List Nat → St → St
  | [], s => s
  | k :: l, s => staleAll l { env := staleE k s.env, stk := staleS k s.stk, bxs := staleB k s.bxs }

def setAll : Bxs → Bxs → Bxs
  | [], b => b
  | (k, x) :: l, b => setB (setAll l b) k x

section
variable {R : Type} (E : Env0)

/-- A call of a function with a contract. -/
def callP (p : PSpec) (args : List AV) (s : St) (K : AV → St → Option R) : Option R :=
  let bx := bif p.res.all scalar then frzAll s.bxs else frzL s.bxs args
  argsK bx p.args args fun x => (p.fn x).bind fun y => K (resAV p.res y) (bif p.res.all scalar then s else { s with bxs := frzL s.bxs args })

/-- A call of a function that returns a slice of its own. -/
def callR (p : RSpec) (key : Nat) (args : List AV) (s : St) (K : AV → St → Option R) : Option R :=
  match find (frzL s.bxs args) key with
  | none => argsK (frzL s.bxs args) p.args args fun x => (p.fn x).bind fun l => K (.row key .whole) { s with bxs := (key, .row p.T p.fz l) :: frzL s.bxs args }
  | some _ => none

/-- A call of a function that is handed boxes. -/
def callS (c : CSpec) (args : List AV) (s : St) (K : AV → St → Option R) : Option R :=
  match thawAll c.thaws { env := params 0 args, stk := s.env :: s.stk, bxs := s.bxs } with
  | some s1 =>
    let bx := frzL s1.bxs (tyVals s1.env c.args ++ tyValsB s1.bxs c.ins)
    decEnv bx s1.env c.args fun xa => decBxs bx c.ins fun xb => (c.fn (xa, xb)).bind fun y => match s1.stk with
      | env :: stk =>
        let s2 := staleAll (rowKeys c.ins) { env := env, stk := stk, bxs := bx }
        K (tup1 (encV c.res y.1)) { s2 with bxs := setAll (encBxs c.outs y.2) s2.bxs }
      | [] => none
  | none => none

variable (inl : Nat → Callee → List AV → St → (AV → St → Option R) → Option R)

/-- One operation that is carried out. -/
def exec1 (base : Nat) (o : Oper) (s : St) (K : AV → St → Option R) : Option R :=
  match o.op with
  | .pick c a b => match ev E.C s.env c with
    | some (.val .bool t) => bif t then (match ev E.C s.env a with | some v => K v s | none => none) else (match ev E.C s.env b with | some v => K v s | none => none)
    | _ => none
  | .call { callee := .value f, args, .. } => match ev E.C s.env f, evL E.C s.env args.toList with
    | some (.fn f caps), some vs => match caps, find E.P f with
      | [], some p => callP p vs s K
      | caps, _ => match caps, find E.R f with
        | [], some p => callR p (base + o.dst.getD 0) vs s K
        | caps, _ => match find E.S f with
          | some c => callS c (vs ++ caps) s K
          | none => inl (base + o.dst.getD 0) (.fn f) (vs ++ caps) s K
    | some (.yld b), some vs => inl (base + o.dst.getD 0) (.yld b) vs s K
    | _, _ => none
  | _ => match execA E.C base o s with
    | some (c, v, e) => bif c then K v (e.apply s) else none
    | none => none

def runOps (base : Nat) (ops : Array Oper) : List Oper → St → (St → Option R) → Option R
  | [], s, K => K s
  | o :: rest, s, K => match o.guard with
    | none => exec1 E inl base o s fun v s => runOps base ops rest { s with env := putE o.dst v s.env } K
    | some (j, want) => match (ops[j]?).bind (·.dst) with
      | some d => match find s.env d with
        | some (.val .bool b) =>
          bif b then
            (bif want then exec1 E inl base o { s with env := (d, .val .bool true) :: s.env } fun v s => runOps base ops rest { s with env := putE o.dst v s.env } K
             else runOps base ops rest { s with env := putE o.dst (.tup []) ((d, .val .bool true) :: s.env) } K)
          else
            (bif want then runOps base ops rest { s with env := putE o.dst (.tup []) ((d, .val .bool false) :: s.env) } K
             else exec1 E inl base o { s with env := (d, .val .bool false) :: s.env } fun v s => runOps base ops rest { s with env := putE o.dst v s.env } K)
        | some (.tup []) => runOps base ops rest { s with env := putE o.dst (.tup []) s.env } K
        | _ => none
      | none => none

/-! Regions whose order is drawn. -/
def deps (o : Oper) : List Nat := (o.after.toList.filter (Region.binds .any)).map (·.on)

/-- What must be done ahead of each operation, as masks. -/
def maskOf (acc : List Nat) (l : List Nat) : Nat := l.foldl (fun m j => m ||| (1 <<< j) ||| acc.getD j 0) 0
def masks : List Oper → List Nat → List Nat
  | [], acc => acc
  | o :: l, acc => masks l (acc ++ [maskOf acc (deps o)])

/-- An operation that may change the boxes. -/
def isWriter (o : Oper) : Bool :=
  match o.op with
  | .move _ | .assign _ | .pick .. | .build .. | .buildSlice .. | .load .. | .nilCheck _ | .binOp .. | .unOp .. | .convert .. | .fieldAddr .. | .field .. | .indexAddr .. | .index .. | .slice .. | .extract .. | .makeFunc .. => false
  | .call { callee := .builtin .len, .. } | .call { callee := .builtin .min, .. } | .call { callee := .builtin .max, .. } => false
  | .call { callee := .value _, .. } => false
  | _ => true

/-- The slots that an operation looks at. -/
def looks (ops : Array Oper) (o : Oper) : List Nat :=
  (o.op.operands.toList.filterMap fun | .tmp t => some t | _ => none) ++
  (match o.guard with
   | some (g, _) => ((ops[g]?).bind (·.dst)).toList
   | none => [])

/-- Is one ahead of the other, whatever the order? -/
def ahead (ms : List Nat) (i j : Nat) : Bool := Nat.testBit (ms.getD j 0) i

def pairOk (ops : Array Oper) (ms : List Nat) (i : Nat) (x : Oper) (j : Nat) (y : Oper) : Bool :=
  -- i < j
  (ahead ms i j || (!isWriter x && !isWriter y &&
    (match x.dst with | some d => !(looks ops y).contains d | none => true) && (match y.dst with | some d => !(looks ops x).contains d | none => true))) &&
  (match x.dst, y.dst with | some d, some e => !Nat.beq d e | _, _ => true)

def pairsOk (ops : Array Oper) (ms : List Nat) (i : Nat) (x : Oper) : Nat → List Oper → Bool
  | _, [] => true
  | j, y :: l => pairOk ops ms i x j y && pairsOk ops ms i x (j + 1) l

def allOk (ops : Array Oper) (ms : List Nat) : Nat → List Oper → Bool
  | _, [] => true
  | i, x :: l => (deps x).all (fun j => Nat.blt j i) && pairsOk ops ms i x (i + 1) l && allOk ops ms (i + 1) l

def drawOk (ops : Array Oper) : Bool := allOk ops (masks ops.toList []) 0 ops.toList

def restr (env : Env) : List Nat → Env
  | [] => []
  | t :: l => match find env t with
    | some v => (t, v) :: restr env l
    | none => restr env l

/-- An operation that leaves the boxes alone. -/
def exec0 (base : Nat) (o : Oper) (s : St) (K : AV → Option R) : Option R :=
  match o.op with
  | .pick c a b => match ev E.C s.env c with
    | some (.val .bool t) => bif t then (match ev E.C s.env a with | some v => K v | none => none) else (match ev E.C s.env b with | some v => K v | none => none)
    | _ => none
  | .call { callee := .value f, args, .. } => match ev E.C s.env f, evL E.C s.env args.toList with
    | some (.fn f []), some vs => match find E.P f with
      | some p => argsK (bif p.res.all scalar then frzAll s.bxs else s.bxs) p.args vs fun x => (p.fn x).bind fun y => K (resAV p.res y)
      | none => none
    | _, _ => none
  | _ => match execA E.C base o s with
    | some (c, v, .none) => bif c then K v else none
    | _ => none

/-- An operation with its guard, in a state that holds what it looks at. -/
def execG (base : Nat) (ops : Array Oper) (o : Oper) (s : St) (K : AV → St → Option R) : Option R :=
  match o.guard with
  | none => exec0 E base o { s with env := restr s.env (looks ops o) } fun v => K v s
  | some (j, want) => match (ops[j]?).bind (·.dst) with
    | some d => match find s.env d with
      | some (.val .bool b) =>
        bif b then (bif want then exec0 E base o { s with env := restr s.env (looks ops o) } fun v => K v { s with env := (d, .val .bool true) :: s.env } else K (.tup []) { s with env := (d, .val .bool true) :: s.env })
        else (bif want then K (.tup []) { s with env := (d, .val .bool false) :: s.env } else exec0 E base o { s with env := restr s.env (looks ops o) } fun v => K v { s with env := (d, .val .bool false) :: s.env })
      | some (.tup []) => K (.tup []) s
      | _ => none
    | none => none

def runDraw (base : Nat) (ops : Array Oper) : List Oper → St → (St → Option R) → Option R
  | [], s, K => K s
  | o :: rest, s, K => bif isWriter o then runOps E inl base ops [o] s fun s => runDraw base ops rest s K
    else execG E base ops o s fun v s => runDraw base ops rest { s with env := putE o.dst v s.env } K

def runLoop (l : LSpec) (s : St) (K : Ex → St → Option R) : Option R :=
  match thawAll l.thaws s with
  | some s => l.head.dec s fun x => (l.fn x).bind fun o => outK K l.outs o
  | none => none

/-- The frame that remembers a loop's record. -/
def isYld (env : Env) (b : Nat) : Bool :=
  match find env 0 with
  | some (.yld c) => Nat.beq c b
  | _ => false

def runC (d f base : Nat) : Code → St → (Ex → St → Option R) → Option R
  | .skip, s, K => K .normal s
  | .region _ ops draw, s, K => bif draw then runDraw E inl base ops ops.toList s (fun s => K .normal s) else runOps E inl base ops ops.toList s fun s => K .normal s
  | .seq a b, s, K => runC d f base a s fun e s => match e with
    | .normal => runC d f base b s K
    | e => K e s
  | .cond c a b, s, K => match ev E.C s.env c with
    | some (.val .bool t) => bif t then runC d f base a s K else runC d f base b s K
    | _ => none
  | .block id c, s, K => runC d f base c s fun e s => match e with
    | .exit i => bif Nat.beq i id then K .normal s else K (.exit i) s
    | e => K e s
  | .loop c, s, K => match findL E.L ⟨d, base, f, firstRegion c⟩ with
    | some l => runLoop l s K
    | none => none
  | .exit id, s, K => K (.exit id) s
  | .ret, s, K => K .ret s
  | .rangeFunc q _ a b, s, K => match ev E.C s.env q with
    | some (.fn f' caps) => match find s.bxs (loopKey base a b) with
      | none => inl (loopKey base a b) (.fn f') (.yld (loopKey base a b) :: caps) { env := [(0, .yld (loopKey base a b))], stk := s.env :: s.stk, bxs := (loopKey base a b, .loop false f (rid a b) s.env) :: s.bxs } fun _ s' =>
        match s'.stk, find s'.bxs (loopKey base a b) with
        | env :: stk, some (.loop false _ _ _) => bif isYld s'.env (loopKey base a b) then K .normal { env := env, stk := stk, bxs := setB s'.bxs (loopKey base a b) .dead } else none
        | _, _ => none
      | some _ => none
    | _ => none
  | _, _, _ => none
end

/-- The slots of a loop's variables, filled. -/
def putL : List Nat → List AV → Env → Env
  | p :: ps, v :: vs, env => putL ps vs ((p, v) :: env)
  | _, _, env => env

/-- A call in place. -/
def inlineC {R : Type} (E : Env0) : Nat → Nat → Callee → List AV → St → (AV → St → Option R) → Option R
  | 0, _, _, _, _, _ => none
  | d + 1, base, .fn f, args, s, K => match find E.F f with
    | some fn => match fn.body with
      | some c => runC E (inlineC E d) d f (base * 1000) c { env := params 0 args, stk := s.env :: s.stk, bxs := s.bxs } fun e s' =>
        match e, s'.stk with
        | .exit _, _ => none
        | _, env :: stk => match resOf E.C s' fn.results.toList with
          | some vs => K (tup1 vs) { env := env, stk := stk, bxs := s'.bxs }
          | none => none
        | _, [] => none
      | none => none
    | none => none
  | d + 1, base, .yld b, args, s, K => match find s.bxs b with
    | some (.loop false f id env) => match find E.F f with
      | some fn => match fn.body with
        | some c => match find (rangesOf fn.ntmps c) id with
          | some cd => bif Nat.beq cd.ps.length args.length && (noRange cd.assign && noRange cd.body) then
              runC E (inlineC E d) d f (base * 1000) cd.assign { env := putL cd.ps args env, stk := [(0, .yld b)] :: s.env :: s.stk, bxs := s.bxs } fun e s1 => match e, s1.stk, find s1.bxs b with
                | .normal, e0 :: _, some (.loop false f1 i1 env1) => bif isYld e0 b && (Nat.beq f1 f && Nat.beq i1 id) then
                    runC E (inlineC E d) d f (base * 1000) cd.body { s1 with bxs := setB s1.bxs b (.loop true f id env1) } fun e s2 => match e, s2.stk, find s2.bxs b with
                      | .normal, e1 :: env0 :: stk, some (.loop true f2 i2 env2) => bif isYld e1 b && (Nat.beq f2 f && Nat.beq i2 id) then K (.val .bool true) { env := env0, stk := stk, bxs := setB s2.bxs b (.loop false f id env2) } else none
                      | _, _, _ => none
                  else none
                | _, _, _ => none
            else none
          | none => none
        | none => none
      | none => none
    | _ => none

def depth : Nat := 12

/-- Results as typed values: rows are frozen first. -/
def resK {R : Type} (bx : Bxs) : (l : List Ty) → List AV → (tysDen l → Option R) → Option R
  | [], [], K => K ()
  | T :: l, v :: vs, K => match norm (frzAll bx) T v with
    | some x => resK bx l vs fun y => K (x, y)
    | none => none
  | _, _, _ => none

/-- A whole function, from typed arguments to typed results. -/
def runF (E : Env0) (f : Nat) (fn : Func) (c : Code) (args res : List Ty) (x : tysDen args) : Option (tysDen res) :=
  runC E (inlineC E depth) depth f 0 c { env := params 0 (tysAV args x), stk := [], bxs := [] } fun e s =>
    match e with
    | .exit _ => none
    | _ => match resOf E.C s fn.results.toList with
      | some vs => resK s.bxs res vs some
      | none => none

/-- A slice that is returned, as a row. -/
def resRow (bx : Bxs) (T : Ty) (fz : Bool) : AV → Option (List T.den)
  | .nils => some []
  | .full S l => bif fz then (if h : S = T then some (h ▸ l) else none) else none
  | .row b .whole => match find bx b with
    | some (.row S f l) => bif f == fz then (if h : S = T then some (h ▸ l) else none) else none
    | _ => none
  | _ => none

/-- A function that returns a slice of its own. -/
def runR (E : Env0) (f : Nat) (fn : Func) (c : Code) (vs : List AV) (T : Ty) (fz : Bool) : Option (List T.den) :=
  runC E (inlineC E depth) depth f 0 c { env := params 0 vs, stk := [], bxs := [] } fun e s =>
    match e with
    | .exit _ => none
    | _ => match resOf E.C s fn.results.toList with
      | some [v] => resRow (bif fz then frzL s.bxs [v] else s.bxs) T fz v
      | _ => none

section
variable {R : Type}
def decV (bx : Bxs) : (l : List Sh) → List AV → (shDen l → Option R) → Option R
  | [], [], K => K ()
  | .ty T :: l, v :: vs, K => match norm bx T v with
    | some x => decV bx l vs fun y => K (x, y)
    | none => none
  | .cst c :: l, v :: vs, K => bif v.same c then decV bx l vs K else none
  | _, _, _ => none
end

/-- The pointers are still there. -/
def ptrsOk (env : Env) : Env → Bool
  | [] => true
  | (n, v) :: l => (match find env n with | some u => u.same v | none => false) && ptrsOk env l

/-- A function that is handed boxes. -/
def runS (E : Env0) (f : Nat) (fn : Func) (c : Code) (p : CSpec) (x : envDen p.args × bxsDen p.ins) : Option (shDen p.res × bxsDen p.outs) :=
  runC E (inlineC E depth) depth f 0 c { env := encEnv p.args x.1, stk := [varPtrs 0 p.ins], bxs := encBxs p.ins x.2 } fun e s =>
    match e with
    | .exit _ => none
    | _ => match resOf E.C s fn.results.toList with
      | some vs =>
        let bx := frzL s.bxs (tyGs p.res vs ++ tyValsB s.bxs p.outs)
        bif (match s.stk with | [e] => ptrsOk e (varPtrs 0 p.ins) | _ => false) then decV bx p.res vs fun ya => decBxs bx p.outs fun yb => some (ya, yb) else none
      | none => none

/-- One round of a loop. -/
def runB (E : Env0) (d f base : Nat) (c : Code) (l : LSpec) (again : l.head.den → Option (outDen l.outs)) (x : l.head.den) : Option (outDen l.outs) :=
  runC E (inlineC E d) d f base c (l.head.enc x) fun e s =>
    match e with
    | .normal => l.head.dec s again
    | e => decOut e s l.outs

/-- The loops of a function. -/
def loopsOf : Code → List Code
  | .seq a b => loopsOf a ++ loopsOf b
  | .cond _ a b => loopsOf a ++ loopsOf b
  | .block _ c => loopsOf c
  | .loop c => c :: loopsOf c
  | .rangeFunc _ _ a b => loopsOf a ++ loopsOf b
  | _ => []

def findLoop : List Code → Nat → Code
  | [], _ => .skip
  | c :: l, id => bif Nat.beq (firstRegion c) id then c else findLoop l id

/-- The body of the loop that begins with a region. -/
def loopAt (c : Code) (id : Nat) : Code := findLoop (loopsOf c) id

/-- No two loops begin with the same region. -/
def idsOk : List Nat → Bool
  | [] => true
  | i :: l => !l.contains i && idsOk l

def dstOk (n : Nat) (o : Oper) : Bool :=
  match o.dst with
  | some d => Nat.blt d n
  | none => true

/-- The slots that are written are slots of the frame. -/
def dstsOk (n : Nat) : Code → Bool
  | .region _ ops _ => ops.toList.all (dstOk n)
  | .seq a b => dstsOk n a && dstsOk n b
  | .cond _ a b => dstsOk n a && dstsOk n b
  | .block _ c => dstsOk n c
  | .loop c => dstsOk n c
  | .rangeFunc _ ps a b => ps.toList.all (fun p => Nat.blt p n) && (dstsOk n a && dstsOk n b)
  | _ => true

/-- Regions whose order is drawn are such that the order does not matter. -/
def drawsOk : Code → Bool
  | .region _ ops draw => !draw || drawOk ops
  | .seq a b => drawsOk a && drawsOk b
  | .cond _ a b => drawsOk a && drawsOk b
  | .block _ c => drawsOk c
  | .loop c => drawsOk c
  | .rangeFunc _ _ a b => drawsOk a && drawsOk b
  | _ => true

def funOk (fn : Func) : Bool :=
  match fn.body with
  | some c => (dstsOk fn.ntmps c && drawsOk c) && idsOk ((loopsOf c).map firstRegion) && idsOk ((rangesOf fn.ntmps c).map (·.1)) && decide (fn.params.size + fn.nfree ≤ fn.ntmps) && !(fn.name == "runtime.NumGoroutine")
  | none => false

end Go.V
