/- An abstract evaluator of the model's code: values are plain data, memory of the call's own lies in a small store. -/
import GoSem.Step
set_option linter.unusedVariables false
set_option linter.unusedSimpArgs false
namespace Go.Ab

/-- Universal data: numbers, bools, byte strings, nodes (slices, structs, tuples), closures. -/
inductive U where
  | I (n : Int)
  | B (b : Bool)
  | S (s : List UInt8)
  | N (nl : Bool) (n : Nat) (g : Nat → U)
  | C (f : Nat) (n : Nat) (g : Nat → U)

namespace U
def toI : U → Int | I n => n | _ => 0
def toB : U → Bool | B b => b | _ => false
def toS : U → List UInt8 | S s => s | _ => []
def isNil : U → Bool | N b _ _ => b | _ => false
def len : U → Nat | N _ n _ => n | C _ n _ => n | _ => 0
def get : U → Nat → U | N _ _ g, i => g i | C _ _ g, i => g i | _, _ => I 0
def fid : U → Nat | C f _ _ => f | _ => 0
def nth : List U → Nat → U
  | [], _ => I 0
  | x :: _, 0 => x
  | _ :: xs, n + 1 => nth xs n
def nil : U := N true 0 fun _ => I 0
def ofL (nl : Bool) (xs : List U) : U := N nl xs.length (nth xs)
def toL (u : U) : List U := (List.range u.len).map u.get
def sub (u : U) (lo hi : Nat) : U := N u.isNil (hi - lo) (fun i => u.get (lo + i))
def upd (u : U) (j : Nat) (v : U) : U := N u.isNil u.len (fun i => bif Nat.beq i j then v else u.get i)
def path (u : U) : List Nat → U
  | [] => u
  | j :: p => path (u.get j) p
def setp (u v : U) : List Nat → U
  | [] => v
  | j :: p => u.upd j (setp (u.get j) v p)
/-- the bytes of a string as numbers -/
def ofBytes (s : List UInt8) : List U := s.map fun c => I c.toNat
def bytes (l : List U) : List UInt8 := l.map fun u => u.toI.toNat.toUInt8
end U

inductive Ty where
  | int (k : IntKind) | bool | str
  | sl (e : Nat)
  | st (fs : List Nat)
  | fn (ps : List Nat) (r : Nat)
  | ptr (e : Nat)
  | map (k v b : Nat)

/-- what a closure has captured: a box of the call's own, or a variable that is only read -/
inductive Cap where
  | own (id : Nat)
  | ro (t : Nat) (u : U)

inductive AV where
  | junk
  | und
  | i (k : IntKind) (n : Int)
  | b (x : Bool)
  | s (x : List UInt8)
  | nl
  | sl (e : Nat) (u : U)
  | st (t : Nat) (u : U)
  | fn (t : Nat) (u : U)
  | clo (f : Nat) (caps : List Cap)
  | ow (id : Nat) (r : Option (Nat × Nat))
  | pb (id : Nat) (path : List Nat)
  | pe (id idx : Nat) (path : List Nat)
  | rp (t : Nat) (u : U)
  | tup (ts : List (Nat × Option Nat)) (u : U)
  | cv (j : Nat) (w : Bool) (v : AV)
  | mp (id : Nat)

inductive Blk where
  | arr (e : Nat) (z : Bool) (xs : List U)
  | box (t : Nat) (vs : List AV)
  | dead
  | mp (t : Nat) (es : List U)

abbrev Sto := Nat → Option Blk
structure St where
  env : List AV
  sto : Sto

def look : List AV → Nat → AV
  | [], _ => .junk
  | a :: _, 0 => a
  | _ :: l, n + 1 => look l n
def setl : List AV → Nat → AV → List AV
  | [], _, _ => []
  | _ :: l, 0, v => v :: l
  | a :: l, n + 1, v => a :: setl l n v
def nthN : List Nat → Nat → Nat
  | [], _ => 0
  | x :: _, 0 => x
  | _ :: xs, n + 1 => nthN xs n
def setUs : List U → Nat → U → List U
  | [], _, _ => []
  | _ :: l, 0, v => v :: l
  | a :: l, n + 1, v => a :: setUs l n v
def nthL : List (List U) → Nat → List U
  | [], _ => []
  | x :: _, 0 => x
  | _ :: xs, n + 1 => nthL xs n

/-- a slot is written: what hung on it is not known any more -/
def killcv (d : Nat) : AV → AV
  | .cv j w v => bif Nat.beq j d then .junk else .cv j w v
  | a => a
def dropcv : AV → AV
  | .cv _ _ _ => .junk
  | a => a
def isCv : AV → Bool
  | .cv _ _ _ => true
  | _ => false
def St.put (st : St) (d : Option Nat) (v : AV) : St :=
  match d with
  | some d => { st with env := setl (st.env.map (killcv d)) d v }
  | none => st
def St.blk (st : St) (j : Nat) (b : Blk) : St := { st with sto := fun i => bif Nat.beq i j then some b else st.sto i }
def St.drop (st : St) : St := { st with env := st.env.map dropcv }

def constAV : Value → AV
  | .bool b => .b b
  | .int k n => .i k n
  | .string s => .s s.data.toList
  | .slice none 0 0 => .nl
  | _ => .junk
def St.eval (st : St) : Operand → AV
  | .tmp t => look st.env t
  | .const v => constAV v
  | .func f => .clo f []
  | .global _ => .junk

inductive CSh where
  | own (i : Nat)
  | ro (t : Nat)
/-- the shape of a live slot, for the head of a loop and for where ways meet -/
inductive Sh where
  | i (k : IntKind) | b | s
  | sl (e : Nat) | st (t : Nat) | fn (t : Nat) | rp (t : Nat)
  | ow (id : Nat) (e : Nat)
  | pb (id t : Nat) (fs : List Sh)
  | cf (f : Nat)
  | cl (f : Nat) (cs : List CSh)
  | mp (id t : Nat)
  | any
structure Tpl where
  n : Nat
  slots : List (Nat × Sh)
structure JP where
  us : List U
  ls : List (List U)
inductive LO where
  | brk (q : JP)
  | ret (u : U)

structure Fn where
  params : List Nat
  caps : List Nat := []
  res : List ResultVar
  rts : List Nat
  ntmps : Nat
  body : Code
  own : List (Option Bool) := []
  out : List (Option Bool) := []
  /-- a function that works on memory of the caller's: what it finds, and what it leaves -/
  xt : Option (Tpl × Tpl) := none

structure Ctx where
  te : Nat → Option Ty
  sz : Nat → Nat
  lim : Nat → Nat
  fn : Nat → Option Fn
  loops : Nat → Nat → Option (Tpl × Tpl)
  joins : Nat → Nat → Option Tpl
  prim : Nat → Option ((Nat → List U → Option U) → List U → Option U)
  /-- regions whose guards are told apart -/
  split : Nat → Nat → Bool := fun _ _ => false
  /-- an iterator's closure: the types of what it yields -/
  iter : Nat → Option (List Nat) := fun _ => none
  /-- functions that work on memory of the caller's -/
  xfn : Nat → Option Fn := fun _ => none

def Ctx.fx (C : Ctx) (g : Nat) : Option Fn := match C.fn g with
  | some fi => some fi
  | none => C.xfn g

variable (C : Ctx)

def ofU (t : Nat) (u : U) : AV :=
  match C.te t with
  | some (.int k) => .i k u.toI
  | some .bool => .b u.toB
  | some .str => .s u.toS
  | some (.sl e) => .sl e u
  | some (.st _) => .st t u
  | some (.fn _ _) => .fn t u
  | some (.ptr e) => .rp e u
  | some (.map _ _ _) | none => .junk
/-- a value that hangs on no memory of the call's own, as a datum -/
def AV.flat : AV → Option U
  | .i _ n => some (.I n)
  | .b x => some (.B x)
  | .s x => some (.S x)
  | .nl => some .nil
  | .sl _ u | .st _ u | .fn _ u | .rp _ u => some u
  | _ => none
def flats : List AV → Option (List U)
  | [] => some []
  | a :: l => match a.flat, flats l with
    | some u, some us => some (u :: us)
    | _, _ => none
/-- the element type of a type of slices -/
def elt (t : Nat) : Option Nat := match C.te t with | some (.sl e) => some e | _ => none
def ftype (t j : Nat) : Nat := match C.te t with | some (.st fs) => nthN fs j | _ => 0
def ptype (t : Nat) : List Nat → Nat
  | [] => t
  | j :: p => ptype (ftype C t j) p
/-- what an own slice holds -/
def prt (xs : List U) : Option (Nat × Nat) → List U
  | none => xs
  | some (o, n) => (xs.drop o).take n
def offOf : Option (Nat × Nat) → Nat
  | none => 0
  | some (o, _) => o
def owU (z : Bool) (xs : List U) (r : Option (Nat × Nat)) : U := .ofL (z && xs.isEmpty) (prt xs r)
/-- a value as a datum: what hangs on memory of the call's own is told as it stands -/
def AV.toU (st : St) : AV → Option U
  | .ow id r => match st.sto id with
    | some (.arr _ z xs) => some (owU z xs r)
    | _ => none
  | a => a.flat
def toUs (st : St) : List AV → Option (List U)
  | [] => some []
  | a :: l => match a.toU st, toUs st l with
    | some u, some us => some (u :: us)
    | _, _ => none
/-- does a value fit a variable of a type -/
def fitsT (t : Nat) (a : AV) : Bool :=
  match C.te t, a with
  | some (.int k), .i k' _ => decide (k = k')
  | some .bool, .b _ => true
  | some .str, .s _ => true
  | some (.sl _), .nl => true
  | some (.sl e), .sl e' _ => Nat.beq e e'
  | some (.st _), .st t' _ => Nat.beq t t'
  | _, _ => false
def fitsTs : List Nat → List AV → Bool
  | [], [] => true
  | t :: ts, a :: l => fitsT C t a && fitsTs ts l
  | _, _ => false
def eltOf (st : St) : AV → Option Nat
  | .sl e _ => some e
  | .ow id _ => match st.sto id with
    | some (.arr e _ _) => some e
    | _ => none
  | _ => none
def capT (st : St) : Cap → Option Nat
  | .ro t _ => some t
  | .own id => match st.sto id with
    | some (.box t _) => some t
    | _ => none
def capTs (st : St) : List Cap → Option (List Nat)
  | [] => some []
  | c :: l => match capT st c, capTs st l with
    | some t, some ts => some (t :: ts)
    | _, _ => none
/-- does a value fit a parameter, or a variable of the call's own -/
def fitsArg (st : St) (t : Nat) (a : AV) : Bool :=
  match C.te t, a with
  | some (.ptr e), .rp e' _ => Nat.beq e e'
  | some (.sl e), .ow _ _ => match eltOf st a with | some e' => Nat.beq e e' | none => false
  | some (.fn ps r), .fn t' _ => match C.te t' with | some (.fn ps' r') => ps == ps' && Nat.beq r r' | _ => false
  | some (.fn ps r), .clo f caps => match C.fn f, capTs st caps with | some fi, some ts => fi.params == ps && fi.rts == [r] && fi.own.all Option.isNone && fi.out.all Option.isNone && ts == fi.caps | _, _ => false
  | _, _ => fitsT C t a
def fitsArgs (st : St) : List Nat → List AV → Bool
  | [], [] => true
  | t :: ts, a :: l => fitsArg C st t a && fitsArgs st ts l
  | _, _ => false
/-- a box's content as one datum -/
def boxU (st : St) (t : Nat) (vs : List AV) : Option U :=
  match C.te t with
  | some (.st fs) => bif fitsArgs C st fs vs then (toUs st vs).map (U.ofL false) else none
  | some _ => match vs with
    | [v] => bif fitsArg C st t v then v.toU st else none
    | _ => none
  | none => none
def capUs (st : St) : List Cap → Option (List U)
  | [] => some []
  | .ro _ u :: l => (capUs st l).map (u :: ·)
  | .own id :: l => match st.sto id, capUs st l with
    | some (.box t vs), some us => (boxU C st t vs).map (· :: us)
    | _, _ => none
/-- an argument as a datum -/
def argU (st : St) : AV → Option U
  | .clo f caps => (capUs C st caps).map fun us => .C f us.length (U.nth us)
  | a => a.toU st
def argUs (st : St) : List AV → Option (List U)
  | [] => some []
  | a :: l => match argU C st a, argUs st l with
    | some u, some us => some (u :: us)
    | _, _ => none
/-- a box's content out of a value -/
def unbox (st : St) (t : Nat) (v : AV) : Option (List AV) :=
  match C.te t with
  | some (.st fs) => match v with
    | .st t' u => bif Nat.beq t t' then some (fs.zipIdx.map fun p => ofU C p.1 (u.get p.2)) else none
    | _ => none
  | some (.fn _ _) => bif fitsArg C st t v || (match v with | .clo f _ => (C.xfn f).isSome | _ => false) then some [v] else none
  | some (.map _ _ _) => match v with
    | .mp id => match st.sto id with
      | some (.mp t' _) => bif Nat.beq t t' then some [v] else none
      | _ => none
    | _ => none
  | some _ => bif fitsArg C st t v then some [v] else none
  | none => none
def zeroU : Nat → Nat → U
  | 0, _ => .I 0
  | d + 1, t => match C.te t with
    | some (.int _) => .I 0
    | some .bool => .B false
    | some .str => .S []
    | some (.sl _) => .nil
    | some (.st fs) => .ofL false (fs.map (zeroU d))
    | _ => .I 0
/-- types whose zero is told -/
def zeroT : Nat → Nat → Bool
  | 0, _ => false
  | d + 1, t => match C.te t with
    | some (.int _) | some .bool | some .str | some (.sl _) => true
    | some (.st fs) => fs.all (zeroT d)
    | _ => false
def eqU : Nat → Nat → U → U → Bool
  | 0, _, _, _ => false
  | d + 1, t, u, v => match C.te t with
    | some (.int _) => decide (u.toI = v.toI)
    | some .bool => u.toB == v.toB
    | some .str => decide (u.toS = v.toS)
    | some (.st fs) => (fs.zipIdx.map fun p => eqU d p.1 (u.get p.2) (v.get p.2)).foldr (· && ·) true
    | _ => false
/-- types that '==' may compare -/
def cmpT : Nat → Nat → Bool
  | 0, _ => false
  | d + 1, t => match C.te t with
    | some (.int _) | some .bool | some .str => true
    | some (.st fs) => fs.all (cmpT d)
    | _ => false
/-- types that lead to no memory -/
def flatT : Nat → Nat → Bool
  | 0, _ => false
  | d + 1, t => match C.te t with
    | some (.int _) | some .bool | some .str => true
    | some (.st fs) => fs.all (flatT d)
    | _ => false

def ibit (op : BinOp) (k : IntKind) (x y : Int) : Int :=
  match op with
  | .and => k.wrap (BitVec.ofInt k.bits x &&& BitVec.ofInt k.bits y).toNat
  | .or => k.wrap (BitVec.ofInt k.bits x ||| BitVec.ofInt k.bits y).toNat
  | .xor => k.wrap (BitVec.ofInt k.bits x ^^^ BitVec.ofInt k.bits y).toNat
  | _ => k.wrap (BitVec.ofInt k.bits x &&& ~~~(BitVec.ofInt k.bits y)).toNat
def aint (op : BinOp) (k : IntKind) (x y : Int) : Option (Bool × AV) :=
  match op with
  | .add => some (true, .i k (k.wrap (x + y)))
  | .sub => some (true, .i k (k.wrap (x - y)))
  | .mul => some (true, .i k (k.wrap (x * y)))
  | .quo => some (!decide (y = 0), .i k (k.wrap (x.tdiv y)))
  | .rem => some (!decide (y = 0), .i k (x.tmod y))
  | .and => some (true, .i k (ibit .and k x y))
  | .or => some (true, .i k (ibit .or k x y))
  | .xor => some (true, .i k (ibit .xor k x y))
  | .andNot => some (true, .i k (ibit .andNot k x y))
  | .eql => some (true, .b (decide (x = y)))
  | .neq => some (true, .b (!decide (x = y)))
  | .lss => some (true, .b (decide (x < y)))
  | .leq => some (true, .b (decide (x ≤ y)))
  | .gtr => some (true, .b (decide (y < x)))
  | .geq => some (true, .b (decide (y ≤ x)))
  | _ => none
def astr (op : BinOp) (x y : List UInt8) : Option (Bool × AV) :=
  match op with
  | .add => some (decide (x.length + y.length ≤ 9223372036854775807), .s (x ++ y))
  | .eql => some (true, .b (decide (x = y)))
  | .neq => some (true, .b (!decide (x = y)))
  | .lss => some (true, .b (Op.bytesLess x y))
  | .leq => some (true, .b (Op.bytesLess x y || decide (x = y)))
  | .gtr => some (true, .b (!(Op.bytesLess x y || decide (x = y))))
  | .geq => some (true, .b (!Op.bytesLess x y))
  | _ => none
def ashift (op : BinOp) (k : IntKind) (a b : Int) : Option (Bool × AV) :=
  match op with
  | .shl => some (decide (0 ≤ b), .i k (k.wrap (a * 2 ^ min b.toNat k.bits)))
  | .shr => some (decide (0 ≤ b), .i k (a.fdiv (2 ^ min b.toNat k.bits)))
  | _ => none
def isShift : BinOp → Bool
  | .shl | .shr => true
  | _ => false
/-- is a slice nil -/
def nilOf (st : St) : AV → Option Bool
  | .nl => some true
  | .sl _ u => some u.isNil
  | .ow id none => match st.sto id with
    | some (.arr _ z xs) => some (z && xs.isEmpty)
    | _ => none
  | _ => none
def isEql : BinOp → Option Bool
  | .eql => some true
  | .neq => some false
  | _ => none
def abin (st : St) (op : BinOp) (t : Nat) (x y : AV) : Option (Bool × AV) :=
  match x, y with
  | .i k a, .i k' b => bif isShift op then ashift op k a b else bif decide (k = k') then aint op k a b else none
  | .s a, .s b => astr op a b
  | .b a, .b b => match isEql op, C.te t with
    | some e, some .bool => some (true, .b (bif e then a == b else !(a == b)))
    | _, _ => none
  | .st t1 u, .st t2 v => match isEql op with
    | some e => bif Nat.beq t t1 && Nat.beq t t2 && cmpT C 20 t then some (true, .b (bif e then eqU C 20 t u v else !eqU C 20 t u v)) else none
    | none => none
  | x, .nl => match isEql op, nilOf st x, elt C t with
    | some e, some z, some _ => some (true, .b (bif e then z else !z))
    | _, _, _ => none
  | _, _ => none

/-- a field of a value -/
def fieldOf (t : Nat) (a : AV) (p : List Nat) : Option AV :=
  match p with
  | [] => some a
  | p => match a with
    | .st t' u => bif Nat.beq t t' then some (ofU C (ptype C t p) (u.path p)) else none
    | _ => none
def isPtr (t : Nat) : Bool := match C.te t with | some (.ptr _) | none => true | _ => false
def aload (st : St) (t : Nat) (a : AV) : Option AV :=
  bif isPtr C t then none else match a with
  | .rp t' u => bif Nat.beq t t' then some (ofU C t u) else none
  | .pb id p => match st.sto id with
    | some (.box t' vs) => match C.te t' with
      | some (.st fs) => match p with
        | [] => bif Nat.beq t t' then (flats vs).map fun us => .st t' (U.ofL false us) else none
        | j :: p => bif Nat.beq t (ptype C t' (j :: p)) && decide (j < fs.length) then fieldOf C (nthN fs j) (look vs j) p else none
      | _ => match p, vs with
        | [], [v] => bif Nat.beq t t' then some v else none
        | _, _ => none
    | _ => none
  | .pe id idx p => match st.sto id with
    | some (.arr e _ xs) => bif Nat.beq t (ptype C e p) then some (ofU C t ((U.nth xs idx).path p)) else none
    | _ => none
  | _ => none
def setField (st : St) (t : Nat) (a v : AV) (p : List Nat) : Option AV :=
  match p with
  | [] => bif fitsArg C st t v then some v else none
  | p => match a, v.flat with
    | .st t' u, some x => bif Nat.beq t t' && fitsT C (ptype C t p) v then some (.st t (u.setp x p)) else none
    | _, _ => none
def astore (st : St) (t : Nat) (a v : AV) : Option St :=
  bif isPtr C t then none else match a with
  | .pb id p => match st.sto id with
    | some (.box t' vs) => match C.te t' with
      | some (.st fs) => match p with
        | [] => bif Nat.beq t t' then (unbox C st t' v).map fun vs => st.blk id (.box t' vs) else none
        | j :: p => bif Nat.beq t (ptype C t' (j :: p)) && decide (j < fs.length) then
            (setField C st (nthN fs j) (look vs j) v p).map fun x => st.blk id (.box t' (setl vs j x)) else none
      | _ => match p with
        | [] => bif Nat.beq t t' then (unbox C st t' v).map fun vs => st.blk id (.box t' vs) else none
        | _ => none
    | _ => none
  | .pe id idx p => match st.sto id, v.flat with
    | some (.arr e z xs), some u => bif Nat.beq t (ptype C e p) && fitsT C t v then some (st.blk id (.arr e z (setUs xs idx ((U.nth xs idx).setp u p)))) else none
    | _, _ => none
  | _ => none
def slen (st : St) : AV → Option Nat
  | .s x => some x.length
  | .nl => some 0
  | .sl _ u => some u.len
  | .ow id none => match st.sto id with
    | some (.arr _ _ xs) => some xs.length
    | _ => none
  | .ow id (some (_, n)) => match st.sto id with
    | some (.arr _ _ _) => some n
    | _ => none
  | _ => none
def lenT (ts : List Nat) (x : AV) : Bool :=
  match ts with
  | [t] => match C.te t, x with
    | some .str, .s _ => true
    | some (.sl _), .s _ => false
    | some (.sl _), _ => true
    | _, _ => false
  | _ => false
def unc (j : Nat) (w : Bool) : AV → AV
  | .cv j' w' v => bif Nat.beq j j' && w == w' then v else .cv j' w' v
  | a => a
def optI (ev : Operand → AV) : Option Operand → Option (Option Int)
  | none => some none
  | some o => match ev o with
    | .i _ n => some (some n)
    | _ => none
def aslice (lo hi : Option Int) (n : Nat) (mk : Nat → Nat → AV) : Option (Bool × AV) :=
  some (decide (0 ≤ lo.getD 0) && decide (lo.getD 0 ≤ hi.getD n) && decide (hi.getD n ≤ n), mk (lo.getD 0).toNat (hi.getD n).toNat)
def capOf : AV → Option Cap
  | .pb id [] => some (.own id)
  | .rp t u => some (.ro t u)
  | _ => none
def capsOf : List AV → Option (List Cap)
  | [] => some []
  | a :: l => match capOf a, capsOf l with
    | some c, some cs => some (c :: cs)
    | _, _ => none
def fillU (l : List U) : List (Nat × U) → List U
  | [] => l
  | (i, u) :: r => fillU (setUs l i u) r

/-- maps: a list of keys and values -/
def mapGet : List U → List UInt8 → U → U
  | [], _, z => z
  | e :: es, x, z => bif decide ((e.get 0).toS = x) then e.get 1 else mapGet es x z
def mapHas : List U → List UInt8 → Bool
  | [], _ => false
  | e :: es, x => decide ((e.get 0).toS = x) || mapHas es x
def mapSet : List U → List UInt8 → U → List U
  | [], x, v => [.ofL false [.S x, v]]
  | e :: es, x, v => bif decide ((e.get 0).toS = x) then .ofL false [.S x, v] :: es else e :: mapSet es x v
/-- operations that leave the store alone -/
def apure (st : St) (ev : Operand → AV) (o : Op) : Option (Bool × AV) :=
  match o with
  | .move x | .assign x => some (true, ev x)
  | .pick (.tmp tc) a b => match ev (.tmp tc) with
    | .b c => match a, b, unc tc true (ev a), unc tc false (ev b) with
      | .const (.bool true), _, _, .b y => some (true, .b (c || y))
      | _, .const (.bool false), .b y, _ => some (true, .b (c && y))
      | _, _, .b x, .b y => some (true, .b (bif c then x else y))
      | _, _, _, _ => none
    | _ => none
  | .binOp op t x y _ => abin C st op t (ev x) (ev y)
  | .unOp op _ x => match op, ev x with
    | .not, .b x => some (true, .b !x)
    | .neg, .i k n => some (true, .i k (k.wrap (0 - n)))
    | _, _ => none
  | .load t a => (aload C st t (ev a)).map fun v => (true, v)
  | .fieldAddr t a j => match C.te t, ev a with
    | some (.st fs), .rp t' u => bif Nat.beq t t' && decide (j < fs.length) then some (true, .rp (nthN fs j) (u.get j)) else none
    | some (.st fs), .pb id p => match st.sto id with
      | some (.box t' _) => bif Nat.beq t (ptype C t' p) && decide (j < fs.length) then some (true, .pb id (p ++ [j])) else none
      | _ => none
    | some (.st fs), .pe id i p => match st.sto id with
      | some (.arr e _ _) => bif Nat.beq t (ptype C e p) && decide (j < fs.length) then some (true, .pe id i (p ++ [j])) else none
      | _ => none
    | _, _ => none
  | .field t a j => match C.te t, ev a with
    | some (.st fs), .st t' u => bif Nat.beq t t' && decide (j < fs.length) then some (true, ofU C (nthN fs j) (u.get j)) else none
    | _, _ => none
  | .indexAddr t x i => match ev x, ev i, elt C t with
    | .sl e u, .i _ n, some e' => bif Nat.beq e e' then some (decide (0 ≤ n) && decide (n < u.len), .rp e (u.get n.toNat)) else none
    | .ow id r, .i _ n, some e' => match st.sto id with
      | some (.arr e _ xs) => bif Nat.beq e e' then some (decide (0 ≤ n) && decide (n < (prt xs r).length), .pe id (offOf r + n.toNat) []) else none
      | _ => none
    | _, _, _ => none
  | .index t x i => match C.te t, ev x, ev i with
    | some .str, .s s, .i _ n => some (decide (0 ≤ n) && decide (n < s.length), .i .u8 (s.getD n.toNat 0).toNat)
    | _, _, _ => none
  | .slice t x lo hi none => match C.te t, ev x, optI ev lo, optI ev hi with
    | some .str, .s s, some l, some h => aslice l h s.length (fun a b => .s ((s.take b).drop a))
    | some (.sl e'), .sl e u, some l, some h => bif Nat.beq e e' then aslice l h u.len (fun a b => .sl e (u.sub a b)) else none
    | some (.sl _), .nl, some l, some h => aslice l h 0 (fun _ _ => .nl)
    | some (.sl e'), .ow id r, some l, some h => match st.sto id with
      | some (.arr e _ xs) => bif Nat.beq e e' then aslice l h (prt xs r).length (fun a b => .ow id (some (offOf r + a, b - a))) else none
      | _ => none
    | _, _, _, _ => none
  | .convert t1 t2 x => match C.te t1, C.te t2, ev x with
    | some (.int _), some (.int k), .i _ n => some (true, .i k (k.wrap n))
    | some .str, some .str, .s s => some (true, .s s)
    | some (.sl e), some .str, a => match C.te e, a.toU st with
      | some (.int .u8), some u => bif fitsArg C st t1 a then some (true, .s (U.bytes u.toL)) else none
      | _, _ => none
    | _, _, _ => none
  | .extract x j => match ev x with
    | .tup ts u => match ts[j]? with
      | some (t, none) => some (true, ofU C t (u.get j))
      | some (_, some id) => some (true, .ow id none)
      | none => none
    | _ => none
  | .makeFunc (.func f) first caps => match first.toList, capsOf (caps.toList.map ev), C.fx f with
    | [], some cs, some fi => match capTs st cs with
      | some ts => bif ts == fi.caps then some (true, .clo f cs) else none
      | none => none
    | _, _, _ => none
  | .lookup t m k true => match C.te t, ev m, ev k with
    | some (.map kt vt bt), .mp id, .s x => match st.sto id, C.te kt, C.te bt with
      | some (.mp t' es), some .str, some .bool => bif Nat.beq t t' then
          some (true, .tup [(vt, none), (bt, none)] (U.ofL false [mapGet es x (.I 0), .B (mapHas es x)])) else none
      | _, _, _ => none
    | _, _, _ => none
  | .call c => match c.callee, c.args.toList.map ev with
    | .builtin .len, [x] => bif lenT C c.argTypes.toList x then (slen st x).map fun (n : Nat) => (true, AV.i .i64 (Int.ofNat n)) else none
    | .builtin .max, [.i k x, .i _ y] => some (true, .i k (bif decide (x < y) then y else x))
    | .builtin .min, [.i k x, .i _ y] => some (true, .i k (bif decide (y < x) then y else x))
    | _, _ => none
  | .build t parts => match C.te t, flats (parts.toList.map fun p => ev p.2) with
    | some (.st fs), some us =>
      bif parts.toList.all (fun p => decide (p.1 < fs.length) && fitsT C (nthN fs p.1) (ev p.2)) && zeroT C 20 t
      then some (true, .st t (.ofL false (fillU (fs.map (zeroU C 19)) ((parts.toList.map (·.1)).zip us)))) else none
    | _, _ => none
  | _ => none

def boxTs (t : Nat) : List Nat := match C.te t with | some (.st fs) => fs | _ => [t]
/-- memory of the call's own becomes a datum for good -/
def frzAV (id e : Nat) (z : Bool) (xs : List U) : AV → AV
  | .ow i r => bif Nat.beq i id then .sl e (owU z xs r) else .ow i r
  | .pe i idx p => bif Nat.beq i id then .rp (ptype C e p) ((U.nth xs idx).path p) else .pe i idx p
  | .tup ts u => bif ts.any (fun p => match p.2 with | some i => Nat.beq i id | none => false) then .junk else .tup ts u
  | .cv j w v => .cv j w (frzAV id e z xs v)
  | a => a
def frzL (id e : Nat) (z : Bool) (xs : List U) : List Nat → List AV → List AV
  | t :: ts, x :: l => (match x with
    | .ow i r => bif Nat.beq i id then (match elt C t with
      | some e' => bif Nat.beq e e' then .sl e (owU z xs r) else .junk
      | none => .junk) else .ow i r
    | .pe i k p => bif Nat.beq i id then .junk else .pe i k p
    | x => x) :: frzL id e z xs ts l
  | _, l => l
def frzBlk (id e : Nat) (z : Bool) (xs : List U) : Blk → Blk
  | .box t vs => .box t (frzL C id e z xs (boxTs C t) vs)
  | b => b
def freeze1 (st : St) (id : Nat) : Option St :=
  match st.sto id with
  | some (.arr e z xs) => some { env := st.env.map (frzAV C id e z xs), sto := fun i => bif Nat.beq i id then some .dead else (st.sto i).map (frzBlk C id e z xs) }
  | _ => none
def freezes (st : St) : List Nat → Option St
  | [] => some st
  | id :: l => match st.sto id with
    | some .dead => freezes st l
    | _ => match freeze1 C st id with
      | some st' => freezes st' l
      | none => none
def ownsOf : AV → List Nat
  | .ow id _ => [id]
  | .pe id _ _ => [id]
  | _ => []
/-- the operands that are laid into lasting data -/
def escs (o : Op) : List Operand :=
  match o with
  | .build _ ps | .buildSlice _ _ ps => ps.toList.map (·.2)
  | _ => []

/-- what is appended -/
def appended (st : St) : AV → Option (List U)
  | .nl => some []
  | .sl _ u => some u.toL
  | .ow id r => match st.sto id with
    | some (.arr _ _ xs) => some (prt xs r)
    | _ => none
  | _ => none
def spliceU (l : List U) (o : Nat) (c : List U) : List U := l.take o ++ c ++ l.drop (o + c.length)
/-- a slice that is nil, as such -/
def nilAV : AV → AV
  | .sl e u => bif u.isNil then .nl else .sl e u
  | a => a
/-- operations that touch the store; d: the slot of the result, which names the new block -/
def aimp (st : St) (ev : Operand → AV) (o : Op) (d : Option Nat) : Option (Bool × St) :=
  match o, d with
  | .alloc t, some d => match C.te t with
    | some (.fn _ _) | some (.map _ _ _) => match st.sto d with
      | none => some (true, (st.blk d (.box t [.junk])).put (some d) (.pb d []))
      | _ => none
    | _ => match st.sto d, unbox C st t (ofU C t (zeroU C 20 t)) with
      | none, some vs => bif zeroT C 20 t then some (true, (st.blk d (.box t (vs.map nilAV))).put (some d) (.pb d [])) else none
      | _, _ => none
  | .makeMap t none, some d => match C.te t, st.sto d with
    | some (.map _ _ _), none => some (true, (st.blk d (.mp t [])).put (some d) (.mp d))
    | _, _ => none
  | .mapUpdate t m k x, none => match C.te t, ev m, ev k, (ev x).flat with
    | some (.map kt vt _), .mp id, .s y, some u => match st.sto id, C.te kt with
      | some (.mp t' es), some .str => bif Nat.beq t t' && fitsT C vt (ev x) then some (true, st.blk id (.mp t (mapSet es y u))) else none
      | _, _ => none
    | _, _, _, _ => none
  | .box t x, some d => match st.sto d, unbox C st t (ev x) with
    | none, some vs => some (true, (st.blk d (.box t vs)).put (some d) (.pb d []))
    | _, _ => none
  | .store t a x, none => (astore C st t (ev a) (ev x)).map fun st' => (true, st')
  | .buildSlice t n ps, some d => match st.sto d, elt C t, flats (ps.toList.map fun p => ev p.2) with
    | none, some e, some us =>
      bif ps.toList.all (fun p => decide (p.1 < n) && fitsT C e (ev p.2)) && decide (n * C.sz e ≤ 16777216) && zeroT C 20 e
      then some (true, (st.blk d (.arr e false (fillU (List.replicate n (zeroU C 20 e)) ((ps.toList.map (·.1)).zip us)))).put (some d) (.ow d none)) else none
    | _, _, _ => none
  | .makeSlice t l c, some d => match st.sto d, elt C t, ev l, ev c with
    | none, some e, .i _ l, .i _ c =>
      bif !zeroT C 20 e then none else some (decide (0 ≤ l) && decide (l ≤ c) && decide (c ≤ C.lim e), (st.blk d (.arr e false (List.replicate l.toNat (zeroU C 20 e)))).put (some d) (.ow d none))
    | _, _, _, _ => none
  | .convert t1 t2 x, some d => match C.te t1, C.te t2, ev x with
    | some .str, some (.sl e), .s s => match C.te e with
      | some (.int .u8) => some (true, st.put (some d) (.sl e (.ofL false (U.ofBytes s))))
      | _ => none
    | _, _, _ => none
  | .call c, some d => match c.callee, c.args.toList.map ev, c.argTypes.toList with
    | .builtin .append, [x, y], [t, t'] => match st.sto d, elt C t, appended st y, eltOf st y with
      | none, some e, some ys, e'' => bif !(Nat.beq t t' && zeroT C 20 e && (match e'' with | some e'' => Nat.beq e e'' | none => true)) then none else match x with
        | .nl => some (decide (ys.length ≤ C.lim e), (st.blk d (.arr e true ys)).put (some d) (.ow d none))
        | .ow id none => match st.sto id with
          | some (.arr e' z xs) =>
            bif Nat.beq e e' && (match y with | .ow id' _ => !Nat.beq id id' | _ => true)
            then some (decide (xs.length + ys.length ≤ C.lim e), ((st.blk id .dead).blk d (.arr e z (xs ++ ys))).put (some d) (.ow d none)) else none
          | _ => none
        | _ => none
      | _, _, _, _ => none
    | _, _, _ => none
  | .call c, none => match c.callee, c.args.toList.map ev, c.argTypes.toList with
    | .builtin .clear, [x], [t] => match x, elt C t with
      | .nl, some _ => some (true, st)
      | .ow id r, some e' => match st.sto id with
        | some (.arr e z xs) => bif Nat.beq e e' && zeroT C 20 e then some (true, st.blk id (.arr e z (spliceU xs (offOf r) (List.replicate (prt xs r).length (zeroU C 20 e))))) else none
        | _ => none
      | _, _ => none
    | _, _, _ => none
  | _, _ => none

def distinct : List Nat → Bool
  | [] => true
  | x :: l => !(l.any (Nat.beq x)) && distinct l
/-- captured variables that are only read -/
def roUs : List Cap → Option (List U)
  | [] => some []
  | .ro _ u :: l => (roUs l).map (u :: ·)
  | .own _ :: _ => none
def packC : List CSh → List Cap → Option (List U)
  | [], [] => some []
  | .own _ :: cs, .own _ :: l => packC cs l
  | .ro t :: cs, .ro t' u :: l => bif Nat.beq t t' then (packC cs l).map (u :: ·) else none
  | _, _ => none
def cmC : List CSh → List Cap → List (Nat × Nat)
  | .own i :: cs, .own id :: l => (i, id) :: cmC cs l
  | .ro _ :: cs, .ro _ _ :: l => cmC cs l
  | _, _ => []
mutual
def packS (st : St) : Sh → AV → Option JP
  | .i k, .i k' n => bif decide (k = k') then some ⟨[.I n], []⟩ else none
  | .b, .b x => some ⟨[.B x], []⟩
  | .s, .s x => some ⟨[.S x], []⟩
  | .sl e, .sl e' u => bif Nat.beq e e' then some ⟨[u], []⟩ else none
  | .sl _, .nl => some ⟨[.nil], []⟩
  | .st t, .st t' u => bif Nat.beq t t' then some ⟨[u], []⟩ else none
  | .fn t, .fn t' u => bif Nat.beq t t' then some ⟨[u], []⟩ else none
  | .rp t, .rp t' u => bif Nat.beq t t' then some ⟨[u], []⟩ else none
  | .cf f, .clo f' [] => bif Nat.beq f f' then some ⟨[], []⟩ else none
  | .ow _ e, .ow id none => match st.sto id with
    | some (.arr e' z xs) => bif Nat.beq e e' then some ⟨[.B z], [xs]⟩ else none
    | _ => none
  | .ow _ e, .nl => bif (C.te e).isSome then some ⟨[.B true], [[]]⟩ else none
  | .pb _ t fs, .pb id [] => match st.sto id with
    | some (.box t' vs) => bif Nat.beq t t' then packL st fs vs else none
    | _ => none
  | .cl f cs, .clo f' caps => bif Nat.beq f f' then (packC cs caps).map fun us => ⟨us, []⟩ else none
  | .mp _ t, .mp id => match st.sto id with
    | some (.mp t' es) => bif Nat.beq t t' then some ⟨[], [es]⟩ else none
    | _ => none
  | .any, _ => some ⟨[], []⟩
  | _, _ => none
def packL (st : St) : List Sh → List AV → Option JP
  | [], [] => some ⟨[], []⟩
  | sh :: ss, a :: as => match packS st sh a, packL st ss as with
    | some p, some q => some ⟨p.us ++ q.us, p.ls ++ q.ls⟩
    | _, _ => none
  | _, _ => none
end
mutual
/-- the blocks of a shape: by their names in the template, and as they are now -/
def tmS (st : St) : Sh → AV → List (Nat × Option Nat)
  | .ow i _, .ow id none => [(i, some id)]
  | .ow i _, .nl => [(i, none)]
  | .mp i _, .mp id => [(i, some id)]
  | .pb i _ fs, .pb id [] => match st.sto id with
    | some (.box _ vs) => (i, some id) :: tmL st fs vs
    | _ => []
  | _, _ => []
def tmL (st : St) : List Sh → List AV → List (Nat × Option Nat)
  | sh :: ss, a :: as => tmS st sh a ++ tmL st ss as
  | _, _ => []
end
mutual
/-- the blocks that closures' variables lead to: by their names in the template, and as they are now -/
def cmS (st : St) : Sh → AV → List (Nat × Nat)
  | .cl _ cs, .clo _ caps => cmC cs caps
  | .pb _ _ fs, .pb id [] => match st.sto id with
    | some (.box _ vs) => cmL st fs vs
    | _ => []
  | _, _ => []
def cmL (st : St) : List Sh → List AV → List (Nat × Nat)
  | sh :: ss, a :: as => cmS st sh a ++ cmL st ss as
  | _, _ => []
end
def nuC : List CSh → Nat
  | [] => 0
  | .own _ :: cs => nuC cs
  | .ro _ :: cs => nuC cs + 1
mutual
def nuS : Sh → Nat
  | .cf _ | .any | .mp _ _ => 0
  | .cl _ cs => nuC cs
  | .pb _ _ fs => nuL fs
  | _ => 1
def nuL : List Sh → Nat
  | [] => 0
  | sh :: ss => nuS sh + nuL ss
end
mutual
def nlS : Sh → Nat
  | .ow _ _ | .mp _ _ => 1
  | .pb _ _ fs => nlL fs
  | _ => 0
def nlL : List Sh → Nat
  | [] => 0
  | sh :: ss => nlS sh + nlL ss
end
def avC (p : JP) : List CSh → Nat → List Cap
  | [], _ => []
  | .own i :: cs, n => .own i :: avC p cs n
  | .ro t :: cs, n => .ro t (U.nth p.us n) :: avC p cs (n + 1)
def avS (p : JP) : Sh → Nat → AV
  | .i k, n => .i k (U.nth p.us n).toI
  | .b, n => .b (U.nth p.us n).toB
  | .s, n => .s (U.nth p.us n).toS
  | .sl e, n => .sl e (U.nth p.us n)
  | .st t, n => .st t (U.nth p.us n)
  | .fn t, n => .fn t (U.nth p.us n)
  | .rp t, n => .rp t (U.nth p.us n)
  | .cf f, _ => .clo f []
  | .cl f cs, n => .clo f (avC p cs n)
  | .mp id _, _ => .mp id
  | .ow id _, _ => .ow id none
  | .pb id _ _, _ => .pb id []
  | .any, _ => .junk
def avL (p : JP) : List Sh → Nat → List AV
  | [], _ => []
  | sh :: ss, n => avS p sh n :: avL p ss (n + nuS sh)
mutual
def stS (p : JP) : Sh → Nat → Nat → Sto → Sto
  | .ow id e, n, m, S => fun i => bif Nat.beq i id then some (.arr e (U.nth p.us n).toB (nthL p.ls m)) else S i
  | .pb id t fs, n, m, S => fun i => bif Nat.beq i id then some (.box t (avL p fs n)) else stL p fs n m S i
  | .mp id t, _, m, S => fun i => bif Nat.beq i id then some (.mp t (nthL p.ls m)) else S i
  | _, _, _, S => S
def stL (p : JP) : List Sh → Nat → Nat → Sto → Sto
  | [], _, _, S => S
  | sh :: ss, n, m, S => stL p ss (n + nuS sh) (m + nlS sh) (stS p sh n m S)
end
def slotsAt (tp : Tpl) (st : St) : List AV := tp.slots.map fun q => look st.env q.1
def pack (tp : Tpl) (st : St) : Option JP :=
  bif Nat.beq tp.n st.env.length && distinct ((tmL st (tp.slots.map (·.2)) (slotsAt tp st)).map (·.1)) && distinct ((tmL st (tp.slots.map (·.2)) (slotsAt tp st)).filterMap (·.2)) && (cmL st (tp.slots.map (·.2)) (slotsAt tp st)).all (fun e => (tmL st (tp.slots.map (·.2)) (slotsAt tp st)).any fun t => Nat.beq t.1 e.1 && (match t.2 with | some i => Nat.beq i e.2 | none => false)) then
    packL C st (tp.slots.map (·.2)) (slotsAt tp st) else none
def lays : List AV → List Nat → List AV → List AV
  | env, t :: ts, v :: vs => lays (setl env t v) ts vs
  | env, _, _ => env
def unpack (tp : Tpl) (p : JP) : St :=
  ⟨lays (List.replicate tp.n .junk) (tp.slots.map (·.1)) (avL p (tp.slots.map (·.2)) 0), stL p (tp.slots.map (·.2)) 0 0 fun _ => none⟩


/-- a box becomes a datum for good -/
def frbCap (id t : Nat) (u : U) : Cap → Cap
  | .own i => bif Nat.beq i id then .ro t u else .own i
  | c => c
def frbAV (id t : Nat) (u : U) : AV → AV
  | .pb i p => bif Nat.beq i id then (match p with | [] => .rp t u | _ => .junk) else .pb i p
  | .clo f caps => .clo f (caps.map (frbCap id t u))
  | .cv j w v => .cv j w (frbAV id t u v)
  | a => a
def frbIn (id t : Nat) (u : U) : AV → AV
  | .pb i p => bif Nat.beq i id then .junk else .pb i p
  | .clo f caps => .clo f (caps.map (frbCap id t u))
  | a => a
def frbBlk (id t : Nat) (u : U) : Blk → Blk
  | .box t' vs => .box t' (vs.map (frbIn id t u))
  | b => b
def freezeB (st : St) (id : Nat) : Option St :=
  match st.sto id with
  | some (.box t vs) => match bif vs.all (fun x => x.flat.isSome) then boxU C st t vs else none with
    | some u => some { env := st.env.map (frbAV id t u), sto := fun i => bif Nat.beq i id then some .dead else (st.sto i).map (frbBlk id t u) }
    | none => none
  | _ => none
/-- what has to become data: rows, and the boxes that hold them -/
def freezeX (st : St) : List Nat → Option St
  | [] => some st
  | id :: l => match st.sto id with
    | some .dead => freezeX st l
    | some (.arr _ _ _) => (freeze1 C st id).bind fun st' => freezeX st' l
    | some (.box _ _) => (freezeB C st id).bind fun st' => freezeX st' l
    | _ => none
def boxIds (st : St) (id : Nat) : List Nat := (match st.sto id with | some (.box _ vs) => vs.flatMap ownsOf | _ => []) ++ [id]
def capAV : Cap → AV
  | .own id => .pb id []
  | .ro t u => .rp t u
/-- what a callee gets as data though it lies in the call's own boxes -/
def xIds (st : St) : Sh → AV → List Nat
  | .rp _, .pb id [] => boxIds st id
  | .fn _, .clo _ caps => caps.flatMap fun | .own id => boxIds st id | .ro _ _ => []
  | .sl _, .ow id _ => [id]
  | _, _ => []
def encJ (p : JP) : List U := [U.ofL false p.us, U.ofL false (p.ls.map (U.ofL false))]
def decJ (us : List U) : JP := ⟨(U.nth us 0).toL, (U.nth us 1).toL.map U.toL⟩
def decR (r : U) : JP := ⟨(r.get 1).toL, (r.get 2).toL.map U.toL⟩
/-- a template under other names -/
def rnN : List (Nat × Nat) → Nat → Nat
  | [], i => i
  | (a, b) :: l, i => bif Nat.beq a i then b else rnN l i
def rnC (rn : List (Nat × Nat)) : CSh → CSh
  | .own i => .own (rnN rn i)
  | c => c
mutual
def rnS (rn : List (Nat × Nat)) : Sh → Sh
  | .ow i e => .ow (rnN rn i) e
  | .mp i t => .mp (rnN rn i) t
  | .pb i t fs => .pb (rnN rn i) t (rnL rn fs)
  | .cl f cs => .cl f (cs.map (rnC rn))
  | sh => sh
def rnL (rn : List (Nat × Nat)) : List Sh → List Sh
  | [] => []
  | sh :: ss => rnS rn sh :: rnL rn ss
end
mutual
/-- the names in a shape -/
def idsS : Sh → List Nat
  | .ow i _ | .mp i _ => [i]
  | .pb i _ fs => i :: idsL fs
  | _ => []
def idsL : List Sh → List Nat
  | [] => []
  | sh :: ss => idsS sh ++ idsL ss
end
/-- where a call's slots lie as the caller names them: those that the callee finds keep their names, others get new ones -/
def topRn (cs : St) : List (Nat × Sh) → List (Nat × Nat)
  | [] => []
  | (j, sh) :: l => (match sh, look cs.env j with
    | .pb i _ _, .pb id [] => [(i, id)]
    | .ow i _, .ow id none => [(i, id)]
    | _, _ => []) ++ topRn cs l
def newRn (d : Nat) (l : List (Nat × Sh)) : List (Nat × Nat) := l.flatMap fun q => (match q.2 with | .pb _ _ fs => idsL fs | _ => []).map fun k => (k, 10000 * (d + 1) + k)
def rnT (cs : St) (d : Nat) (tu : Tpl) : Tpl := ⟨tu.n, tu.slots.map fun q => (q.1, rnS (topRn cs tu.slots ++ newRn d tu.slots) q.2)⟩
/-- a closure that only reads, as a datum -/
def cloAV (st : St) (slots : List (Nat × Sh)) (j : Nat) (a : AV) : AV := match slots.find? (fun q => Nat.beq q.1 j), a with
  | some (_, .fn t), .clo f caps => bif (roUs caps).isSome && fitsArg C st t (.clo f caps) then match argU C st (.clo f caps) with
      | some u => .fn t u
      | none => .clo f caps
    else .clo f caps
  | _, a => a
def cloAVs (st : St) (slots : List (Nat × Sh)) : Nat → List AV → List AV
  | _, [] => []
  | j, a :: l => cloAV C st slots j a :: cloAVs st slots (j + 1) l
def callSt (fi : Fn) (ti : Tpl) (st : St) (as : List AV) : St := ⟨cloAVs C st ti.slots 0 as ++ List.replicate (fi.ntmps - as.length) .und, st.sto⟩
/-- a slot of which the callee leaves what the caller has: rows keep their lengths -/
def topId (st sq cs : St) (j : Nat) : Option Nat := match look cs.env j, look sq.env j with
  | .pb id [], .pb id' [] => match st.sto id, sq.sto id with
    | some (.box t _), some (.box t' _) => bif Nat.beq id id' && Nat.beq t t' then some id else none
    | _, _ => none
  | .ow id none, .ow id' none => match st.sto id, sq.sto id with
    | some (.arr e _ _), some (.arr e' _ _) => bif Nat.beq id id' && Nat.beq e e' then some id else none
    | _, _ => none
  | _, _ => none
def topIds (st sq cs : St) : List Nat → Option (List Nat)
  | [] => some []
  | j :: l => match topId st sq cs j, topIds st sq cs l with
    | some id, some ids => some (id :: ids)
    | _, _ => none
/-- rows keep their lengths -/
def lenC (st sq : St) : List Nat → List Bool
  | [] => []
  | id :: l => match st.sto id, sq.sto id with
    | some (.arr _ _ xs), some (.arr _ _ ys) => decide (ys.length = xs.length) :: lenC st sq l
    | _, _ => lenC st sq l
def andL : List Bool → Bool
  | [] => true
  | [b] => b
  | b :: l => b && andL l
/-- what a callee leaves is laid into the caller's store -/
def xlay (st sq : St) (moved : List Nat) : St := { st with sto := fun i => match sq.sto i with
  | some b => some b
  | none => bif moved.any (Nat.beq i) then some .dead else st.sto i }
def xput (st : St) (ts : List Nat) (d : Option Nat) (r : U) : St := match ts with
  | [] => st.put d .junk
  | [t] => st.put d (ofU C t (r.get 0))
  | ts => st.put d (.tup (ts.map fun t => (t, none)) r)
/-- the blocks that are handed over -/
def movedX (ti : Tpl) (cs : St) : List Nat := (tmL cs (ti.slots.map (·.2)) (slotsAt ti cs)).filterMap (·.2)
/-- behind a call of a function that works on the caller's memory -/
def xret2 (st cs : St) (ti : Tpl) (tq : Tpl) (js : List Nat) (q : JP) (ts : List Nat) (d : Option Nat) (r : U) : Option (Bool × St) :=
  match topIds st (unpack tq q) cs js with
  | some tops => bif (idsL (tq.slots.map (·.2))).all (fun id => tops.any (Nat.beq id) || (st.sto id).isNone) && tops.all (fun id => (movedX ti cs).any (Nat.beq id)) then
      some (andL (lenC st (unpack tq q) tops), xput C (xlay st (unpack tq q) (movedX ti cs)) ts d (r.get 0)) else none
  | none => none
def xret (st cs : St) (ti tu : Tpl) (fi : Fn) (d : Option Nat) (r : U) : Option (Bool × St) :=
  match pack C (rnT cs (d.getD 0) tu) (unpack tu (decR r)) with
  | some q => xret2 C st cs ti (rnT cs (d.getD 0) tu) (tu.slots.map (·.1)) q fi.rts d r
  | none => none
def axcall (F : Nat → List U → Option U) (st : St) (c : Call) (d : Option Nat) : Option (Option U × (U → Option (Bool × St))) :=
  match c.callee with
  | .value f => match st.eval f with
    | .clo g caps => match C.fn g, C.xfn g with
      | none, some fi => match fi.xt with
        | some (ti, tu) => match freezeX C st (ti.slots.flatMap fun q => xIds st q.2 (look (c.args.toList.map st.eval ++ caps.map capAV) q.1)) with
          | some st1 => match st1.eval f with
            | .clo g' caps1 => bif Nat.beq g g' && Nat.beq (c.args.toList.length + caps1.length) (fi.params.length + fi.caps.length) then
                match pack C ti (callSt C fi ti st1 (c.args.toList.map (fun x => dropcv (st1.eval x)) ++ caps1.map capAV)) with
                | some p => some (F g (encJ p), xret C st1 (callSt C fi ti st1 (c.args.toList.map (fun x => dropcv (st1.eval x)) ++ caps1.map capAV)) ti tu fi d)
                | none => none
              else none
            | _ => none
          | none => none
        | none => none
      | _, _ => none
    | _ => none
  | _ => none

variable (F : Nat → List U → Option U)

def strip (st : St) : Nat → Nat → Bool → AV → AV
  | 0, _, _, a => a
  | n + 1, j, w, a => match look st.env j with
    | .cv j' w' _ => strip st n j' w' (unc j w a)
    | _ => unc j w a
def gexp (st : St) : Nat → Nat → Bool → Option Bool
  | 0, _, _ => none
  | n + 1, j, w => match look st.env j with
    | .b x => some (bif w then x else !x)
    | .cv j' w' (.b y) => (gexp st n j' w').map fun z => z && (bif w then y else !y)
    | _ => none

/-- the results of a call may lead to the arguments' memory -/
def hd0 : List (Option Bool) → Option Bool
  | [] => none
  | o :: _ => o
def aliasL : List (Option Bool) → List Nat → Bool
  | os, t :: ts => (match hd0 os, elt C t with
    | some _, some e => !flatT C 20 e
    | _, _ => !flatT C 20 t) || aliasL os.tail ts
  | _, [] => false
def aliasF (fi : Fn) : Bool := aliasL C fi.out fi.rts
/-- a call that takes own memory over may stand in a drawn region, if it hands back one thing, and nothing of what it was given -/
def ownDr (fi : Fn) : Bool := !aliasF C fi && (match fi.rts with | [_] => true | _ => false)
/-- the own blocks of the values that are handed over (or: of the others) -/
def selOwns (b : Bool) : List (Option Bool) → List AV → List Nat
  | _, [] => []
  | os, x :: xs => (bif (hd0 os).isSome == b then ownsOf x else []) ++ selOwns b os.tail xs
/-- the results of a call, as the caller holds them: own ones are laid -/
def layR (st : St) (u : U) (d : Nat) : List (Option Bool) → List Nat → Nat → Option (St × List (Nat × Option Nat))
  | _, [], _ => some (st, [])
  | os, t :: ts, j => match layR st u d os.tail ts (j + 1) with
    | none => none
    | some (st', l) => match hd0 os with
      | none => some (st', (t, none) :: l)
      | some _ => match st'.sto (1000 * (j + 1) + d), elt C t with
        | none, some e => some (st'.blk (1000 * (j + 1) + d) (.arr e (u.get j).isNil (u.get j).toL), (t, some (1000 * (j + 1) + d)) :: l)
        | _, _ => none
def ownOk (st : St) : List (Option Bool) → List AV → Bool
  | _, [] => true
  | os, x :: xs => (match hd0 os with
    | some _ => (match x with
      | .ow id none => (match st.sto id with | some (.arr _ _ _) => true | _ => false)
      | .nl => true
      | _ => false)
    | none => true) && ownOk st os.tail xs
def isOwnCap : Cap → Bool
  | .own _ => true
  | _ => false
/-- the blocks that captured variables lead to -/
def capIds (st : St) : List Cap → List Nat
  | [] => []
  | .ro _ _ :: l => capIds st l
  | .own id :: l => (match st.sto id with | some (.box _ vs) => id :: vs.flatMap ownsOf | _ => [id]) ++ capIds st l
def liveB (st : St) (i : Nat) : Bool := match st.sto i with | some (.arr _ _ _) | some (.box _ _) => true | _ => false
def argIds (st : St) : AV → List Nat
  | .clo _ caps => capIds st caps
  | _ => []
def hasOwn : AV → Bool
  | .clo _ caps => caps.any isOwnCap
  | _ => false
def kills (st : St) : List Nat → St
  | [] => st
  | id :: l => kills (st.blk id .dead) l

/-- the result of a call is laid -/
def retOf (st : St) (fi : Fn) (d : Option Nat) (r : U) : Option St :=
  match fi.rts, d with
  | [], d => some (st.put d .junk)
  | [t], some d => match hd0 fi.out with
    | some _ => (match st.sto d, elt C t with
        | none, some e => some ((st.blk d (.arr e r.isNil r.toL)).put (some d) (.ow d none))
        | _, _ => none)
    | none => some (st.put (some d) (ofU C t r))
  | ts, some d => (layR C st r d fi.out ts 0).map fun p => p.1.put (some d) (.tup p.2 r)
  | _, none => some st
/-- a call of a function that is known by its number -/
def callF (dr : Bool) (st : St) (g : Nat) (caps : List Cap) (as : List AV) (d : Option Nat) : Option (Option U × (U → Option St)) :=
  match C.fn g with
  | none => none
  | some fi => bif fitsArgs C st fi.params as && ownOk st fi.own as && distinct (selOwns true fi.own as) && (selOwns false fi.own as).all (fun i => !(selOwns true fi.own as).any (Nat.beq i))
      && !(dr && (!fi.own.all Option.isNone && !ownDr C fi || aliasF C fi && !(selOwns false fi.own as).isEmpty))
      && (!(aliasF C fi && (caps.any isOwnCap || as.any hasOwn)) && ((selOwns true fi.own as).isEmpty || (capIds st caps ++ as.flatMap (argIds st)).all (fun i => liveB st i && !(selOwns true fi.own as).any (Nat.beq i))))
      && (match capTs st caps with | some ts => ts == fi.caps | none => false) then
      match (bif aliasF C fi then freezes C st (selOwns false fi.own as) else some st), argUs C st as, capUs C st caps with
      | some st1, some us, some cs => some (F g (us ++ cs), fun r => retOf C (kills st1 (selOwns true fi.own as)) fi d r)
      | _, _, _ => none
    else none
/-- a call of a function value -/
def callV (st : St) (t : Nat) (u : U) (as : List AV) (d : Option Nat) : Option (Option U × (U → Option St)) :=
  match C.te t with
  | some (.fn ps r) => bif fitsArgs C st ps as && flatT C 20 r then
      match argUs C st as with
      | some us => some (F u.fid (us ++ u.toL), fun x => some (st.put d (ofU C r x)))
      | none => none
    else none
  | _ => none
def drBad (dr : Bool) (f : Operand) (g : Nat) : Bool := dr && !(match f with | .func _ => true | _ => (match C.fn g with | some fi => fi.out.all Option.isNone && fi.own.all Option.isNone | none => false))
def acall (dr : Bool) (st : St) (ev : Operand → AV) (c : Call) (d : Option Nat) : Option (Option U × (U → Option St)) :=
  match c.callee with
  | .value f => match ev f with
    | .clo g caps => bif drBad C dr f g then none
          else callF C F dr st g caps (c.args.toList.map ev) d
    | .fn t u => callV C F st t u (c.args.toList.map ev) d
    | _ => none
  | _ => none

/-- nothing of the call's own is handed over -/
def noOwns (caps : List Cap) (as : List AV) : Bool := !caps.any isOwnCap && as.all fun x => (ownsOf x).isEmpty && !hasOwn x
def dstOf (ops : List Oper) (j : Nat) : Option Nat := match ops[j]? with | some o => o.dst | none => none
/-- what leaves the call's own memory for lasting data -/
def escape (dr : Bool) (st : St) (o : Op) : Option St :=
  match (escs o).flatMap (fun x => ownsOf (st.eval x)) with
  | [] => some st
  | l => bif dr then none else freezes C st l

section
variable {R : Type}
def aoperK (dr : Bool) (o : Oper) (st0 : St) (K : St → Option R) : Option R :=
  match escape C dr st0 o.op with
  | none => none
  | some st => match apure C st st.eval o.op with
    | some (safe, v) => bif safe then K (st.put o.dst (dropcv v)) else none
    | none => match aimp C st st.eval o.op o.dst with
      | some (safe, st') => bif safe then K st' else none
      | none => match o.op with
        | .call c => match acall C F dr st st.eval c o.dst with
          | some (r, k) => r.bind fun x => match k x with
            | some st' => K st'
            | none => none
          | none => bif dr then none else match axcall C F st c o.dst with
            | some (r, k) => r.bind fun x => match k x with
              | some (safe, st') => bif safe then K st' else none
              | none => none
            | none => none
        | _ => none
def aoperG (j : Nat) (w : Bool) (o : Oper) (st : St) (K : St → Option R) : Option R :=
  match gexp st 20 j w, o.dst with
  | some gd, some d => bif Nat.beq d j then none else
    match apure C st (fun x => strip st 20 j w (st.eval x)) o.op with
    | some (safe, v) => bif isCv v then none else bif safe || !gd then K (st.put (some d) (.cv j w v)) else none
    | none => match o.op with
      | .call c => match c.callee with
        | .value f => match strip st 20 j w (st.eval f) with
          | .clo g caps => match C.fn g, capUs C st caps, argUs C st (c.args.toList.map fun x => strip st 20 j w (st.eval x)) with
            | some fi, some cs, some us => match fi.rts with
              | [t] => bif fitsArgs C st fi.params (c.args.toList.map fun x => strip st 20 j w (st.eval x)) && fi.own.all Option.isNone && (fi.out.all Option.isNone && flatT C 20 t || noOwns caps (c.args.toList.map fun x => strip st 20 j w (st.eval x))) && (match capTs st caps with | some ts => ts == fi.caps | none => false) then
                  (bif gd then F g (us ++ cs) else some (.I 0)).bind fun r => K (st.put (some d) (.cv j w (ofU C t r)))
                else none
              | _ => none
            | _, _, _ => none
          | .fn t u => match C.te t, argUs C st (c.args.toList.map fun x => strip st 20 j w (st.eval x)) with
            | some (.fn ps t), some us => bif fitsArgs C st ps (c.args.toList.map fun x => strip st 20 j w (st.eval x)) && flatT C 20 t then
                  (bif gd then F u.fid (us ++ u.toL) else some (.I 0)).bind fun r => K (st.put (some d) (.cv j w (ofU C t r)))
                else none
            | _, _ => none
          | _ => none
        | _ => none
      | _ => none
  | _, _ => none
def aopsK (dr : Bool) (ops : List Oper) : List Oper → St → (St → Option R) → Option R
  | [], st, K => K st.drop
  | o :: rest, st, K =>
    match o.guard with
    | none => aoperK C F dr o st fun st' => aopsK dr ops rest st' K
    | some (j, w) => match dstOf ops j with
      | some j => aoperG C F j w o st fun st' => aopsK dr ops rest st' K
      | none => none
end

/-- a conversion of bytes of the call's own: they are data from then on -/
def convOwn (st : St) (o : Oper) : Option St :=
  match o.op, o.dst with
  | .convert t1 t2 x, some d => match st.eval x, elt C t1 with
    | .ow id none, some e => match st.sto id, C.te e with
      | some (.arr e' false xs), some (.int .u8) => bif Nat.beq t1 t2 && Nat.beq e e' then freeze1 C (st.put (some d) (.ow id none)) id else none
      | _, _ => none
    | _, _ => none
  | _, _ => none
/-- what is chosen, out of what is known -/
def pickOf (st : St) (o : Op) : Option (Bool × AV × AV) :=
  match o with
  | .pick (.tmp tc) a b => match look st.env tc with
    | .b c => some (c, st.eval a, st.eval b)
    | _ => none
  | _ => none
def St.known (st : St) (j : Nat) (b : Bool) : St := { st with env := setl st.env j (.b b) }
/-- a region whose guards are told apart -/
def aopsS {R : Type} (ops : List Oper) : List Oper → St → (St → Option R) → Option R
  | [], st, K => K st.drop
  | o :: rest, st, K => match o.guard with
    | none => match convOwn C st o with
      | some st' => aopsS ops rest st' K
      | none => match pickOf st o.op with
        | some (c, x, y) => bif c then aopsS ops rest (st.put o.dst (dropcv x)) K else aopsS ops rest (st.put o.dst (dropcv y)) K
        | none => aoperK C F false o st fun st' => aopsS ops rest st' K
    | some (j, w) => match dstOf ops j with
      | none => none
      | some j => match look st.env j with
        | .b x => bif (bif w then x else !x) then aoperK C F false o (st.known j w) (fun st' => aopsS ops rest st' K) else aopsS ops rest ((st.known j (!w)).put o.dst .und) K
        | .und => aopsS ops rest (st.put o.dst .und) K
        | _ => none

inductive Ex where
  | n | x (id : Nat)

/-- the slots' values that are handed back -/
def resAV (st : St) : ResultVar → AV
  | .tmp t => look st.env t
  | .cell t ty => match look st.env t with
    | .pb id [] => (aload C st ty (.pb id [])).getD .junk
    | _ => .junk
def ares1 (st : St) (o : Option Bool) (t : Nat) (x : AV) : Option U :=
  match o with
  | some _ => match x with
    | .ow id none => match st.sto id with
      | some (.arr e z xs) => bif (match elt C t with | some e' => Nat.beq e e' | none => false) then some (owU z xs none) else none
      | _ => none
    | .ow id (some (0, n)) => match st.sto id with
      | some (.arr e z xs) => bif (match elt C t with | some e' => Nat.beq e e' | none => false) then some (owU z xs (some (0, n))) else none
      | _ => none
    | .nl => bif (elt C t).isSome then some .nil else none
    | _ => none
  | none => bif fitsArg C st t x && (argIds st x).all (liveB st) then argU C st x else none
def ares (st : St) : List (Option Bool) → List Nat → List AV → Option (List U)
  | _, [], [] => some []
  | os, t :: ts, x :: xs => match ares1 C st (hd0 os) t x, ares st os.tail ts xs with
    | some u, some us => some (u :: us)
    | _, _ => none
  | _, _, _ => none
def aresU (st : St) (fi : Fn) : Option U :=
  bif (fi.out.all Option.isNone || (fi.res.map (resAV C st)).all fun x => !hasOwn x) && (distinct (selOwns true fi.out (fi.res.map (resAV C st))) && (selOwns false fi.out (fi.res.map (resAV C st))).all (fun i => !(selOwns true fi.out (fi.res.map (resAV C st))).any (Nat.beq i))) then
    match ares C st fi.out fi.rts (fi.res.map (resAV C st)) with
    | some [u] => some u
    | some us => some (U.ofL false us)
    | none => none
  else none

/-- what is handed back by a function that works on the caller's memory -/
def aresX (st : St) (fi : Fn) : Option U :=
  match fi.xt with
  | none => aresU C st fi
  | some (_, tu) => match freezes C st ((fi.res.map (resAV C st)).flatMap ownsOf) with
    | some st1 => bif fitsTs C fi.rts (fi.res.map (resAV C st1)) then match flats (fi.res.map (resAV C st1)), pack C tu st1 with
        | some us, some q => some (U.ofL false (U.ofL false us :: encJ q))
        | _, _ => none
      else none
    | none => none

inductive Cls where
  | pure | reads | makes | writes
def clsOf : Op → Cls
  | .move _ | .assign _ | .pick .. | .unOp .. | .field .. | .index .. | .extract .. | .build .. => .pure
  | .binOp .. | .load .. | .fieldAddr .. | .indexAddr .. | .slice .. | .makeFunc .. | .lookup .. => .reads
  | .convert t1 t2 _ => match C.te t1, C.te t2 with
    | some (.int _), some (.int _) => .pure
    | _, _ => .makes
  | .alloc _ | .box .. | .buildSlice .. | .makeSlice .. => .makes
  | .call c => match c.callee with
    | .builtin .len => .reads
    | .builtin .max | .builtin .min => .pure
    | .value (.func g) => match C.fn g with
      | some fi => bif fi.own.all Option.isNone then (bif fi.out.all Option.isNone then .reads else .makes) else .writes
      | none => .writes
    | .value _ => .reads
    | _ => .writes
  | _ => .writes
def meets : Cls → Cls → Bool
  | .pure, _ | _, .pure => true
  | .reads, .reads | .reads, .makes | .makes, .reads | .makes, .makes => true
  | _, _ => false
def slotsOf (o : Oper) : List Nat := o.op.operands.toList.filterMap fun | .tmp t => some t | _ => none
def before (o : Oper) : List Nat := (o.after.toList.filter (Region.binds .any)).map (·.on)
def slotsG (ops : List Oper) (o : Oper) : List Nat := slotsOf o ++ (match o.guard with | some (j, _) => (dstOf ops j).toList | none => [])
/-- two operations that do not look at each other's slots -/
def apart (ops : List Oper) (a b : Oper) : Bool :=
  (match a.dst with | some d => !(slotsG ops b).any (Nat.beq d) && (match b.dst with | some d' => !Nat.beq d d' | none => true) | none => true) &&
  (match b.dst with | some d => !(slotsG ops a).any (Nat.beq d) | none => true)
def isRead (o : Oper) : Bool := match clsOf C o.op with
  | .pure | .reads => true
  | _ => false
def isCalm (o : Oper) : Bool := match clsOf C o.op with
  | .writes => false
  | _ => true
/-- is 'p' ahead of 'b' by the edges -/
def ahead (ops : List Oper) : Nat → Nat → Oper → Bool
  | 0, _, _ => false
  | k + 1, p, b => (before b).any fun q => Nat.beq p q || (match ops[q]? with | some o => ahead ops k p o | none => false)
def readyNow (ops : List Oper) (done : List Nat) (i : Nat) : Bool :=
  !done.any (Nat.beq i) && (match ops[i]? with | some o => (before o).all fun j => done.any (Nat.beq j) | none => false)
/-- an order of a region's operations: those that only read come as early as they can -/
def canonGo (ops : List Oper) (n : Nat) : Nat → List Nat → List Nat
  | 0, _ => []
  | k + 1, done => match ((List.range n).filter (readyNow ops done)).find? (fun i => match ops[i]? with | some o => isRead C o | none => false) with
    | some i => i :: canonGo ops n k (i :: done)
    | none => match (List.range n).filter (readyNow ops done) with
      | i :: _ => i :: canonGo ops n k (i :: done)
      | [] => []
def canon (ops : List Oper) : List Nat := canonGo C ops ops.length ops.length []
def isMove (o : Oper) : Bool := match o.op with
  | .move _ | .assign _ => o.guard.isNone
  | _ => false
/-- slots that a region does not write -/
def stable (ops : List Oper) (t : Nat) : Bool := ops.all fun o => match o.dst with | some d => !Nat.beq d t | none => true
def ptrAt (ops : List Oper) (st : St) : Operand → Option AV
  | .tmp t => bif stable ops t then some (look st.env t) else none
  | _ => none
def isAppend (c : Call) : Bool := match c.callee with
  | .builtin .append => true
  | _ => false
def ownCall (c : Call) : Bool := match c.callee with
  | .value (.func g) => (match C.fn g with | some fi => ownDr C fi | none => false)
  | _ => false
/-- two operations that touch different memory, as the pointers stand where the region begins -/
def pairD (st : St) (ops : List Oper) (a b : Oper) : Bool := a.guard.isNone && b.guard.isNone && apart ops a b && match a.op, b.op with
  | .load _ x, .store _ y _ => (match ptrAt ops st x, ptrAt ops st y with
    | some (.pb i _), some (.pb j _) => !Nat.beq i j
    | some (.rp _ _), _ => true
    | _, _ => false)
  | .load _ x, .call c => (isAppend c || ownCall C c) && (match ptrAt ops st x with
    | some (.pb _ _) | some (.rp _ _) => true
    | _ => false)
  | .call c, .buildSlice .. => isAppend c
  | .buildSlice .., .buildSlice .. => true
  | _, _ => false
def pairOk (st : St) (ops : List Oper) (i j : Nat) : Bool := match ops[i]?, ops[j]? with
  | some a, some b => pairD C st ops a b || (ahead ops 30 i b || ((isRead C a || a.guard.isSome) && (isCalm C b || b.guard.isSome) && apart ops a b) || (isMove a && apart ops a b))
  | _, _ => false
def pairsOk (st : St) (ops : List Oper) : List Nat → Bool
  | [] => true
  | i :: l => l.all (pairOk C st ops i) && pairsOk st ops l
def canonOps (ops : List Oper) : List Oper := (canon C ops).filterMap fun i => ops[i]?
/-- each comes behind those that it has to wait for -/
def topo (ops : List Oper) : List Nat → List Nat → Bool
  | _, [] => true
  | done, i :: l => readyNow ops done i && topo ops (i :: done) l
/-- no two write one slot; a guard comes ahead of what it guards -/
def slotOk (ops : List Oper) : Bool :=
  ((List.range ops.length).all fun p => (List.range ops.length).all fun q => Nat.beq p q || (match dstOf ops p, dstOf ops q with | some a, some b => !Nat.beq a b | _, _ => true)) &&
  ops.all fun o => match o.guard with | some (j, _) => (before o).any (Nat.beq j) | none => true
def drawOk (st : St) (ops : List Oper) : Bool := Nat.beq (canon C ops).length ops.length && (List.range ops.length).all (fun i => (canon C ops).any (Nat.beq i)) && (canon C ops).all (fun i => decide (i < ops.length)) && topo ops [] (canon C ops) && pairsOk C st ops (canon C ops) && slotOk ops

/-- the temporaries that code may write -/
def wrC : Code → Nat → Bool
  | .seq a b, t => wrC a t || wrC b t
  | .region _ ops _, t => ops.toList.any fun o => o.dst == some t
  | .cond _ a b, t => wrC a t || wrC b t
  | .block _ c, t => wrC c t
  | .loop c, t => wrC c t
  | .skip, _ => false
  | .exit _, _ => false
  | .ret, _ => false
  | _, _ => true
/-- code that neither returns nor defers -/
def noDR : Code → Bool
  | .skip => true
  | .seq a b => noDR a && noDR b
  | .region _ ops _ => ops.toList.all fun o => match o.op with | .defer _ => false | _ => true
  | .cond _ a b => noDR a && noDR b
  | .block _ c => noDR c
  | .loop c => noDR c
  | .exit _ => true
  | _ => false
/-- a range over a function: what its rounds may not touch -/
def rgOk (ti tu : Tpl) (ps : Array Tmp) (asg body : Code) : Bool :=
  noDR asg && noDR body && (ti.slots ++ tu.slots).all fun q => !(ps.toList.any fun t => Nat.beq t q.1) && !wrC asg q.1 && !wrC body q.1
/-- what an iterator yields -/
def rgItems (Y : Nat → List U → Option (List U)) (n : Nat) (u : U) : Option (List U) := match C.iter u.fid with
  | some ts => bif Nat.beq ts.length n then Y u.fid u.toL else none
  | none => none
def isRange : Code → Bool
  | .rangeFunc .. => true
  | _ => false
def acodeK (Y : Nat → List U → Option (List U)) (L : Nat → Code → JP → Option LO) (g : Nat) (fi : Fn) : Code → Nat → (R : Type) → St → (U → Option R) → (Ex → St → Option R) → Option R
  | .skip, _, _, st, _, K => K .n st
  | .seq a b, bid, R, st, Kr, K => acodeK Y L g fi a bid R st Kr fun e st' => match e with
    | .n => acodeK Y L g fi b bid R st' Kr K
    | .x j => K (.x j) st'
  | .region id ops draw, _, _, st, _, K => bif draw then (bif drawOk C st.drop ops.toList then aopsK C F true ops.toList (canonOps C ops.toList) st.drop (K .n) else none) else bif C.split g id then aopsS C F ops.toList ops.toList st.drop (K .n) else aopsK C F false ops.toList ops.toList st (K .n)
  | .cond c a b, bid, R, st, Kr, K => match st.eval c with
    | .b x => match (match c with | .tmp t => C.joins g t | _ => none) with
      | none => bif x then acodeK Y L g fi a bid R st Kr K else acodeK Y L g fi b bid R st Kr K
      | some tp =>
        (bif x then acodeK Y L g fi a bid LO st (fun u => some (.ret u)) (fun e st' => match e with | .n => (pack C tp st').map .brk | .x _ => none)
          else acodeK Y L g fi b bid LO st (fun u => some (.ret u)) (fun e st' => match e with | .n => (pack C tp st').map .brk | .x _ => none)).bind fun o => match o with
            | .brk q => K .n (unpack tp q)
            | .ret u => Kr u
    | _ => none
  | .block id c, _, R, st, Kr, K => acodeK Y L g fi c id R st Kr fun e st' => match e with
    | .n => K .n st'
    | .x j => bif Nat.beq j id then K .n st' else K (.x j) st'
  | .loop c, bid, _, st, Kr, K => bif isRange c then none else match C.loops g bid with
    | some (ti, tu) => match pack C ti st with
      | some p => (L bid c p).bind fun o => match o with
        | .brk q => K (.x bid) (unpack tu q)
        | .ret u => Kr u
      | none => none
    | none => none
  | .rangeFunc fo ps asg body, bid, _, st, _, K => match st.eval fo, C.loops g bid with
    | .fn _ u, some (ti, tu) => match pack C ti st with
      | some p => bif rgOk ti tu ps asg body then
          (rgItems C Y ps.size u).bind fun items => (L bid (.rangeFunc fo ps asg body) ⟨.I u.fid :: p.us, items :: p.ls⟩).bind fun o => match o with
            | .brk q => bif (U.nth q.us 0).toB then K (.x bid) (unpack tu ⟨q.us.tail, q.ls⟩) else K .n (unpack tu ⟨q.us.tail, q.ls⟩)
            | .ret _ => none
        else none
      | none => none
    | _, _ => none
  | .exit id, _, _, st, _, K => K (.x id) st
  | .ret, _, _, st, Kr, _ => match aresX C st fi with
    | some u => Kr u
    | none => none
  | _, _, _, _, _, _ => none

/-- what is yielded is put into the round's slots -/
def putAll : List Tmp → List Nat → U → Nat → St → St
  | s :: ss, t :: ts, u, n, st => putAll ss ts u (n + 1) (st.put (some s) (ofU C t (u.get n)))
  | _, _, _, _, st => st
/-- one round of a loop -/
def around (Y : Nat → List U → Option (List U)) (L : Nat → Code → JP → Option LO) (g : Nat) (bid : Nat) (c : Code) (p : JP) : Option LO :=
  match C.fx g, C.loops g bid with
  | some fi, some (ti, tu) => match c with
    | .rangeFunc _ ps asg body => match p, C.iter (U.nth p.us 0).toI.toNat with
      | ⟨fu :: us, items :: ls⟩, some ts => match items with
        | [] => (pack C tu (unpack ti ⟨us, ls⟩)).map fun q => .brk ⟨.B false :: q.us, q.ls⟩
        | x :: xs => acodeK C F Y L g fi asg bid LO (putAll C ps.toList ts x 0 (unpack ti ⟨us, ls⟩)) (fun _ => none) fun e st => match e with
          | .n => acodeK C F Y L g fi body bid LO st (fun _ => none) fun e st => match e with
            | .n => match pack C ti st with
              | some p' => L bid c ⟨fu :: p'.us, xs :: p'.ls⟩
              | none => none
            | .x j => bif Nat.beq j bid then (pack C tu st).map fun q => .brk ⟨.B true :: q.us, q.ls⟩ else none
          | .x _ => none
      | _, _ => none
    | c => acodeK C F Y L g fi c bid LO (unpack ti p) (fun u => some (.ret u)) fun e st => match e with
      | .n => match pack C ti st with
        | some p' => L bid c p'
        | none => none
      | .x j => bif Nat.beq j bid then (pack C tu st).map .brk else none
  | _, _ => none

def envP : List Nat → List (Option Bool) → List U → Nat → List AV
  | t :: ts, os, u :: us, j => (match hd0 os with | some _ => .ow j none | none => ofU C t u) :: envP ts os.tail us (j + 1)
  | _, _, _, _ => []
def envC : List Nat → List U → List AV
  | t :: ts, u :: us => .rp t u :: envC ts us
  | _, _ => []
def stoP : List Nat → List (Option Bool) → List U → Nat → Sto
  | t :: ts, os, u :: us, j => match hd0 os, elt C t with
    | some _, some e => fun i => bif Nat.beq i j then some (.arr e u.isNil u.toL) else stoP ts os.tail us (j + 1) i
    | _, _ => stoP ts os.tail us (j + 1)
  | _, _, _, _ => fun _ => none
def st0 (fi : Fn) (us : List U) : St :=
  ⟨envP C fi.params fi.own (us.take fi.params.length) 0 ++ (envC fi.caps (us.drop fi.params.length) ++ List.replicate (fi.ntmps - (fi.params.length + fi.caps.length)) .und), stoP C fi.params fi.own (us.take fi.params.length) 0⟩
/-- a call's result -/
def afun (Y : Nat → List U → Option (List U)) (L : Nat → Code → JP → Option LO) (g : Nat) (us : List U) : Option U :=
  match C.fn g with
  | some fi => bif Nat.beq us.length (fi.params.length + fi.caps.length) && fi.xt.isNone then
      acodeK C F Y L g fi fi.body 0 U (st0 C fi us) (fun u => some u) fun e st => match e with
        | .n => aresX C st fi
        | .x _ => none
    else none
  | none => none

def axfun (Y : Nat → List U → Option (List U)) (L : Nat → Code → JP → Option LO) (g : Nat) (us : List U) : Option U :=
  match C.xfn g with
  | some fi => match fi.xt with
    | some (ti, tu) => bif Nat.beq ti.n fi.ntmps && tu.slots.all (fun q => decide (q.1 < fi.params.length + fi.caps.length) && !wrC fi.body q.1) then
        acodeK C F Y L g fi fi.body 0 U (unpack ti (decJ us)) (fun u => some u) fun e st => match e with
          | .n => aresX C st fi
          | .x _ => none
      else none
    | none => none
  | none => none

/-- what an iterator's code yields, and where it goes on: none: it returns -/
structure YR where
  items : List U
  out : Option JP
/-- a round: it may say that no more is wanted; then nothing comes -/
def yiK (x : U) (stop go : Option YR) : Option YR := match stop, go with
  | some ⟨[], none⟩, some r => some ⟨x :: r.items, r.out⟩
  | _, _ => none
/-- what comes behind a loop -/
def yoK (o : Option YR) (k : JP → Option YR) : Option YR := o.bind fun r => match r.out with
  | none => some r
  | some q => (k q).map fun r2 => ⟨r.items ++ r2.items, r2.out⟩
/-- what is known behind a round: what hangs on no memory -/
def lastAV : AV → AV
  | .i k n => .i k n
  | .b x => .b x
  | .s x => .s x
  | .nl => .nl
  | .und => .und
  | _ => .junk
def capsAt : List AV → Nat → List Nat → List U → List AV
  | env, j, t :: ts, u :: us => capsAt (setl env j (.rp t u)) (j + 1) ts us
  | env, _, _, _ => env
def lastSt (fi : Fn) (us : List U) (st : St) : St := ⟨capsAt (st.env.map lastAV) fi.params.length fi.caps us, fun _ => none⟩
def isYield (ys : List Nat) : Op → Option (List Operand)
  | .call c => match c.callee with
    | .value (.tmp t) => bif ys.any (Nat.beq t) then some c.args.toList else none
    | _ => none
  | _ => none
def moveY (ys : List Nat) : Op → Bool
  | .move (.tmp t) => ys.any (Nat.beq t)
  | _ => false
def dropY (d : Option Nat) (ys : List Nat) : List Nat := ys.filter fun t => match d with | some d => !Nat.beq t d | none => true
def yop (fi : Fn) (us : List U) (ts : List Nat) (o : Oper) (ys : List Nat) (st : St) (K : List Nat → St → Option YR) : Option YR :=
  match isYield ys o.op with
  | some xs => match flats (xs.map st.eval) with
    | some vs => bif fitsTs C ts (xs.map st.eval) then
        yiK (U.ofL false vs) (K (dropY o.dst ys) ((lastSt fi us st).put o.dst (.b false))) (K (dropY o.dst ys) ((lastSt fi us st).put o.dst (.b true)))
      else none
    | none => none
  | none => bif moveY ys o.op then (match o.dst with | some d => bif Nat.blt d st.env.length then K (d :: ys) (st.put (some d) .junk) else none | none => none)
    else aoperK C F false o st fun st' => K (dropY o.dst ys) st'
def yops (fi : Fn) (us : List U) (ts : List Nat) (ops : List Oper) : List Oper → List Nat → St → (St → Option YR) → Option YR
  | [], _, st, K => K st.drop
  | o :: rest, ys, st, K => match o.guard with
    | none => match pickOf st o.op with
      | some (c, x, y) => bif c then yops fi us ts ops rest (dropY o.dst ys) (st.put o.dst (dropcv x)) K else yops fi us ts ops rest (dropY o.dst ys) (st.put o.dst (dropcv y)) K
      | none => yop C F fi us ts o ys st fun ys' st' => yops fi us ts ops rest ys' st' K
    | some (j, w) => match dstOf ops j with
      | none => none
      | some j => match look st.env j with
        | .b x => bif (bif w then x else !x) then yop C F fi us ts o ys (st.known j w) (fun ys' st' => yops fi us ts ops rest ys' st' K) else yops fi us ts ops rest (dropY o.dst ys) ((st.known j (!w)).put o.dst .und) K
        | .und => yops fi us ts ops rest (dropY o.dst ys) (st.put o.dst .und) K
        | _ => none
def ycode (L : Nat → Code → JP → Option YR) (g : Nat) (fi : Fn) (us : List U) (ts : List Nat) : Code → Nat → St → (Ex → St → Option YR) → Option YR
  | .skip, _, st, K => K .n st
  | .seq a b, bid, st, K => ycode L g fi us ts a bid st fun e st' => match e with
    | .n => ycode L g fi us ts b bid st' K
    | .x j => K (.x j) st'
  | .region _ ops draw, _, st, K => bif draw then (bif drawOk C st.drop ops.toList then aopsK C F true ops.toList (canonOps C ops.toList) st.drop (K .n) else none) else yops C F fi us ts ops.toList ops.toList [0] st.drop (K .n)
  | .cond c a b, bid, st, K => match st.eval c with
    | .b x => bif x then ycode L g fi us ts a bid st K else ycode L g fi us ts b bid st K
    | _ => none
  | .block id c, _, st, K => ycode L g fi us ts c id st fun e st' => match e with
    | .n => K .n st'
    | .x j => bif Nat.beq j id then K .n st' else K (.x j) st'
  | .loop c, bid, st, K => match C.loops g bid with
    | some (ti, tu) => match pack C ti st with
      | some p => yoK (L bid c p) fun q => K (.x bid) (unpack tu q)
      | none => none
    | none => none
  | .exit id, _, st, K => K (.x id) st
  | .ret, _, _, _ => some ⟨[], none⟩
  | _, _, _, _ => none
/-- one round of a loop of an iterator -/
def yround (L : Nat → Code → JP → Option YR) (g : Nat) (us : List U) (bid : Nat) (c : Code) (p : JP) : Option YR :=
  match C.fn g, C.iter g, C.loops g bid with
  | some fi, some ts, some (ti, tu) => ycode C F L g fi us ts c bid (unpack ti p) fun e st => match e with
    | .n => match pack C ti st with
      | some p' => L bid c p'
      | none => none
    | .x j => bif Nat.beq j bid then (pack C tu st).map fun q => ⟨[], some q⟩ else none
  | _, _, _ => none
def yst0 (fi : Fn) (us : List U) : St := ⟨.junk :: (envC fi.caps us ++ List.replicate (fi.ntmps - (1 + fi.caps.length)) .und), fun _ => none⟩
def yfK (o : Option YR) : Option (List U) := o.bind fun r => match r.out with
  | none => some r.items
  | some _ => none
/-- what an iterator yields -/
def yfun (L : Nat → Code → JP → Option YR) (g : Nat) (us : List U) : Option (List U) :=
  match C.fn g, C.iter g with
  | some fi, some ts => bif Nat.beq us.length fi.caps.length && Nat.beq fi.params.length 1 && fi.res.isEmpty && (List.range (1 + fi.caps.length)).all (fun t => !wrC fi.body t) then
      yfK (ycode C F L g fi us ts fi.body 0 (yst0 fi us) fun e _ => match e with
        | .n => some ⟨[], none⟩
        | .x _ => none)
    else none
  | _, _ => none

end Go.Ab
