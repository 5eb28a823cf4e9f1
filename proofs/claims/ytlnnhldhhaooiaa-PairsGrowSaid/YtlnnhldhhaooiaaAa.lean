import GoSem.Core.World
import GoSem.Core.View
import GoSem.Core.Region
import GoSem.Op.String
import GoSem.Core.Code
import Derived.Orders
import GoSem.Core.Layout
import GoSem.Op.Equal

set_option linter.unusedVariables false
set_option linter.unusedSimpArgs false
set_option linter.unusedSectionVars false
set_option linter.unnecessarySimpa false

section
/- The abstract machine: values, boxes, code, and its evaluator. -/
namespace Go.AM

/-- Abstract values. 'any': nothing is known. -/
inductive AV where
  | any
  | bool (b : Bool)
  | int (k : IntKind) (n : Int)
  | str (s : List UInt8)
  | nilp
  | ref (i v e f : Nat)
  | fptr (cs : List AV)
  | nils
  | fs (es : List (List AV)) (x : Bool)
  | row (i v o n c z : Nat)
  | nilm
  | map (i : Nat)
  | fn (f : Nat) (cap : List AV)
  | yld (i : Nat)
  | nilf
  | nili
  | iface (t : Nat) (v : AV)
  | agg (cs : List AV)
  | tup (vs : List AV)
  deriving Inhabited

/-- How a loop over a function is left. -/
inductive Jump where
  | ret
  | exit (id : Nat)
  deriving Inhabited

inductive LSt where
  | ready
  | busy
  | done (j : Jump)
  deriving Inhabited

inductive Box where
  | cells (v : Nat) (es : List (List AV))
  | map (ks : List Nat) (es : List (AV × AV))
  | loop (lid : Nat) (tmps : List AV) (st : LSt)
  | iter (m since pos last : Nat)
  | defer
  | dead
  deriving Inhabited

abbrev Heap := List Box

/-- Operands. -/
inductive Opd where
  | t (n : Nat)
  | c (v : AV)
  deriving Inhabited

inductive AOp where
  | bad
  | mv (x : Opd)
  | pick (c a b : Opd)
  | alloc (zero : List AV)
  | palloc (k : Nat)
  | box (x : Opd)
  | build (zero : List AV) (parts : List (Nat × Nat × Opd))
  | lit (n : Nat) (zero : List AV) (parts : List (Nat × Opd))
  | load (ag : Bool) (n : Nat) (a : Opd)
  | store (n : Nat) (a v : Opd)
  | nilchk (x : Opd)
  | bin (op : BinOp) (x y : Opd)
  | binb (op : BinOp) (x y : Opd)
  | str (x : Opd)
  | eqa (neg : Bool) (ks : List Nat) (x y : Opd)
  | eqn (k : Nat) (neg : Bool) (x : Opd)
  | un (op : UnOp) (x : Opd)
  | conv (k : IntKind) (x : Opd)
  | s2b (x : Opd)
  | b2s (x : Opd)
  | mkif (t : Nat) (x : Opd)
  | mkfn (f : Nat) (cap : List Opd)
  | mkmap (ks : List Nat)
  | mkslice (zero : List AV) (bytes : Nat) (l c : Opd)
  | slice (z : Nat) (x : Opd) (lo hi mx : Option Opd)
  | substr (x : Opd) (lo hi mx : Option Opd)
  | fld (off : Nat) (x : Opd)
  | part (ag : Bool) (off n : Nat) (x : Opd)
  | ixs (z : Nat) (x i : Opd)
  | ixa (len z : Nat) (x i : Opd)
  | ixv (ag : Bool) (len z : Nat) (x i : Opd)
  | ixstr (x i : Opd)
  | lookup (ks : List Nat) (zero : AV) (ok : Bool) (x k : Opd)
  | mapupd (ks : List Nat) (m k v : Opd)
  | extract (x : Opd) (i : Nat)
  | callf (f : Nat) (args : List Opd)
  | callv (g : Opd) (args : List Opd)
  | append (z bytes : Nat) (s x : Opd)
  | appz (zero : List AV) (bytes : Nat) (s n : Opd)
  | copy (z : Nat) (d s : Opd)
  | clear (zero : List AV) (x : Opd)
  | len (k : Nat) (x : Opd)
  | cap (x : Opd)
  | mx (args : List Opd)
  | mn (args : List Opd)
  | rangem (x : Opd)
  | nextm (x : Opd)
  | entrym (x : Opd)
  deriving Inhabited

structure AO where
  dst : Option Nat
  op : AOp
  guard : Option (Nat × Bool) := none
  deriving Inhabited

inductive AC where
  | bad
  | skip
  | kill (ts : List Nat) (c : AC)
  | region (ops : List AO) (pre : List (List AV)) (unord : List (Nat × Nat))
  | seq (a b : AC)
  | cond (c : Opd) (a b : AC)
  | block (id : Nat) (c : AC)
  | loop (c : AC)
  | exit (id : Nat)
  | ret
  | rangef (lid : Nat) (f : Opd)
  deriving Inhabited

inductive Res where
  | t (n : Nat)
  | cell (t : Nat) (ag : Bool) (n : Nat)
  deriving Inhabited

/-- How a function leaves the heap: 0 as it is; 2 nothing older is written, its own boxes are dropped, its result is frozen; 3 as 2, but a row that is its result is handed over. -/
structure AFn where
  ntmps : Nat
  res : List Res
  mode : Nat
  body : AC
  deriving Inhabited

structure Ctx where
  wp : Nat
  rd : Option Nat
  deriving Inhabited

structure St where
  fr : List AV
  ds : List Nat
  h : Heap
  deriving Inhabited

inductive Ex where
  | nrm
  | exit (id : Nat)
  | ret
  deriving Inhabited, DecidableEq

inductive AFun where
  | code (f : AFn)
  | prim (p : Nat → List AV → Heap → Option (AV × Heap))

structure Tab where
  fn : Nat → Option AFun
  loop : Nat → Option (List Nat × AC × AC)

/-! ### Values -/
mutual
/-- No id of number 'n' or more is named. -/
def AV.under (n : Nat) : AV → Bool
  | .any => false
  | .ref i _ _ _ => decide (i < n)
  | .fptr cs => AV.unders n cs
  | .fs es _ => AV.underss n es
  | .row i _ _ _ _ _ => decide (i < n)
  | .map i => decide (i < n)
  | .fn _ cap => AV.unders n cap
  | .yld i => decide (i < n)
  | .iface _ v => AV.under n v
  | .agg cs => AV.unders n cs
  | .tup vs => AV.unders n vs
  | _ => true
def AV.unders (n : Nat) : List AV → Bool
  | [] => true
  | v :: vs => AV.under n v && AV.unders n vs
def AV.underss (n : Nat) : List (List AV) → Bool
  | [] => true
  | v :: vs => AV.unders n v && AV.underss n vs
end

/-- A value of one cell. -/
def AV.one : AV → Bool
  | .any | .agg _ | .tup _ => false
  | _ => true

/-- A value's cells. -/
def AV.cells : AV → Option (List AV)
  | .agg cs => some cs
  | .any | .tup _ => none
  | v => some [v]

def opd (fr : List AV) : Opd → AV
  | .t n => fr.getD n .any
  | .c v => v

/-- Two values of one cell, of one kind. -/
def eq1 : AV → AV → Option Bool
  | .int k a, .int k' b => if k = k' then some (decide (a = b)) else none
  | .str a, .str b => some (decide (a = b))
  | .bool a, .bool b => some (decide (a = b))
  | _, _ => none

def eqs : List AV → List AV → Option Bool
  | [], [] => some true
  | a :: as, b :: bs => do
    let x ← eq1 a b
    let y ← eqs as bs
    some (x && y)
  | _, _ => none

/-- Two keys. -/
def eqk : AV → AV → Option Bool
  | .agg a, .agg b => eqs a b
  | a, b => eq1 a b

/-- Kinds of cells: 0 bool, 1 a number, 2 a string. -/
def AV.kd : AV → Nat
  | .bool _ => 0
  | .int .. => 1
  | .str _ => 2
  | _ => 9

/-- The kinds of a key's cells. -/
def AV.kds : AV → List Nat
  | .agg cs => 7 :: cs.map AV.kd
  | a => [a.kd]

def bits (op : BinOp) (k : IntKind) (x y : Int) : Option Int :=
  let a := BitVec.ofInt k.bits x
  let b := BitVec.ofInt k.bits y
  match op with
  | .and => some (k.wrap (a &&& b).toNat)
  | .or => some (k.wrap (a ||| b).toNat)
  | .xor => some (k.wrap (a ^^^ b).toNat)
  | .andNot => some (k.wrap (a &&& ~~~b).toNat)
  | _ => none

def shift (op : BinOp) (k : IntKind) (x y : Int) : Option AV :=
  if y < 0 then none else
  match op with
  | .shl => some (.int k (k.wrap (x * 2 ^ (min y.toNat k.bits))))
  | .shr => some (.int k (x.fdiv (2 ^ (min y.toNat k.bits))))
  | _ => none

def binInt (op : BinOp) (k : IntKind) (a b : Int) : Option AV :=
  match op with
  | .add => some (.int k (k.wrap (a + b)))
  | .sub => some (.int k (k.wrap (a - b)))
  | .mul => some (.int k (k.wrap (a * b)))
  | .quo => if b = 0 then none else some (.int k (k.wrap (a.tdiv b)))
  | .rem => if b = 0 then none else some (.int k (a.tmod b))
  | .eql => some (.bool (decide (a = b)))
  | .neq => some (.bool (!decide (a = b)))
  | .lss => some (.bool (decide (a < b)))
  | .leq => some (.bool (decide (a ≤ b)))
  | .gtr => some (.bool (decide (b < a)))
  | .geq => some (.bool (decide (b ≤ a)))
  | .shl | .shr => none
  | op => (bits op k a b).map (.int k)

def binStr (op : BinOp) (a b : List UInt8) : Option AV :=
  match op with
  | .add => if a.length + b.length ≤ 9223372036854775807 then some (.str (a ++ b)) else none
  | .eql => some (.bool (decide (a = b)))
  | .neq => some (.bool (!decide (a = b)))
  | .lss => some (.bool (Op.bytesLess a b))
  | .leq => some (.bool (Op.bytesLess a b || decide (a = b)))
  | .gtr => some (.bool (!(Op.bytesLess a b || decide (a = b))))
  | .geq => some (.bool (!Op.bytesLess a b))
  | _ => none

def bin (op : BinOp) : AV → AV → Option AV
  | .int k a, .int k' b =>
    match op with
    | .shl | .shr => shift op k a b
    | _ => if k = k' then binInt op k a b else none
  | .str a, .str b => binStr op a b
  | .bool a, .bool b =>
    match op with
    | .eql => some (.bool (decide (a = b)))
    | .neq => some (.bool (!decide (a = b)))
    | _ => none
  | _, _ => none

def isNil : AV → Option Bool
  | .nilp | .nils | .nilm | .nilf | .nili => some true
  | .ref .. | .fptr _ | .fs .. | .row .. | .map _ | .fn .. | .yld _ | .iface .. => some false
  | _ => none

/-- Whether a value of a kind is nil: 0 slices, 1 maps, 2 functions, 3 pointers, 4 interface values. -/
def isNilK : Nat → AV → Option Bool
  | 0, .nils | 1, .nilm | 2, .nilf | 3, .nilp | 4, .nili => some true
  | 0, .fs .. | 0, .row .. | 1, .map _ | 2, .fn .. | 2, .yld _ | 3, .ref .. | 3, .fptr _ | 4, .iface .. => some false
  | _, _ => none

def un (op : UnOp) : AV → Option AV
  | .int k n =>
    match op with
    | .neg => some (.int k (k.wrap (0 - n)))
    | .xor => (bits .xor k (if k.signed then -1 else k.max) n).map (.int k)
    | _ => none
  | .bool b => match op with | .not => some (.bool (!b)) | _ => none
  | _ => none

/-- Cells are put over others, from a place on. -/
def splice (cs : List AV) (off : Nat) (new : List AV) : List AV := cs.take off ++ new ++ cs.drop (off + new.length)

def fill (cs : List AV) : List (Nat × Nat × AV) → Option (List AV)
  | [] => some cs
  | (off, n, v) :: rest =>
    match v.cells with
    | some vs => if vs.length = n ∧ off + n ≤ cs.length then fill (splice cs off vs) rest else none
    | none => none

def fillRow (z : Nat) (es : List (List AV)) : List (Nat × AV) → Option (List (List AV))
  | [] => some es
  | (i, v) :: rest =>
    match v.cells with
    | some vs => if vs.length = z ∧ i < es.length then fillRow z (es.set i vs) rest else none
    | none => none

def partOf (ag : Bool) (off n : Nat) (cs : List AV) : Option AV :=
  if off + n ≤ cs.length then
    if ag then some (.agg ((cs.drop off).take n)) else cs[off]?
  else none

def bytesOf : List (List AV) → Option (List UInt8)
  | [] => some []
  | [.int .u8 n] :: rest => (bytesOf rest).map (UInt8.ofNat n.toNat :: ·)
  | _ :: _ => none

/-! ### What an operation does, once its operands are known -/
inductive Src where
  | els (es : List (List AV))
  | row (i v o n : Nat)

inductive Act where
  | val (v : AV)
  | load (ag : Bool) (i v e f n : Nat)
  | store (i v e f : Nat) (cs : List AV)
  | new (es : List (List AV))
  | mkrow (z n : Nat) (es : List (List AV))
  | newmap (ks : List Nat)
  | app (z bytes : Nat) (i v o n c : Nat) (s : Src)
  | appnew (z bytes : Nat) (s0 : AV) (es : List (List AV)) (s : Src)
  | lookup (ks : List Nat) (zero : AV) (ok : Bool) (i : Nat) (k : AV)
  | maplen (i : Nat)
  | mapupd (ks : List Nat) (i : Nat) (k v : AV)
  | call (f : Nat) (args : List AV)
  | round (l : Nat) (args : List AV)
  | copy (z : Nat) (i v o n : Nat) (s : Src)
  | fillz (i v o n : Nat) (zero : List AV)
  | b2s (i v o n : Nat)
  | newiter (m : Nat)
  | next (i : Nat)
  | entry (i : Nat)

def asNat : AV → Option Nat
  | .int _ n => if 0 ≤ n then some n.toNat else none
  | _ => none

def optNat : Option AV → Nat → Option Nat
  | none, d => some d
  | some v, _ => asNat v

/-- A piece of a slice. -/
def cut (z : Nat) (x : AV) (lo hi mx : Option AV) : Option AV :=
  match x with
  | .str s => do
    if mx.isSome then none
    let h ← optNat hi s.length
    let l ← optNat lo 0
    if l ≤ h ∧ h ≤ s.length then some (.str ((s.take h).drop l)) else none
  | .nils => do
    let m ← optNat mx 0
    let h ← optNat hi 0
    let l ← optNat lo 0
    if l = 0 ∧ h = 0 ∧ m = 0 then some .nils else none
  | .fs es full => do
    let n := es.length
    let h ← optNat hi n
    let l ← optNat lo 0
    if l ≤ h ∧ h ≤ n ∧ es.all (fun e => e.length == z) then
      match mx with
      | none => some (.fs ((es.take h).drop l) (full && decide (h = n)))
      | some v => do
        let m ← asNat v
        if h ≤ m ∧ m ≤ n then some (.fs ((es.take h).drop l) (decide (h = m))) else none
    else none
  | .row i v o n c zr => do
    let h ← optNat hi n
    let l ← optNat lo 0
    if l ≤ h ∧ h ≤ c ∧ zr = z then
      match mx with
      | none => if l = 0 ∨ l < c then some (.row i v (o + l) (h - l) (c - l) zr) else some (.fs [] false)
      | some v' => do
        let m ← asNat v'
        if h ≤ m ∧ m ≤ c then
          if l = m then some (.fs [] true) else some (.row i v (o + l) (h - l) (m - l) zr)
        else none
    else none
  | _ => none

def srcOf (z : Nat) : AV → Option Src
  | .nils => some (.els [])
  | .fs es _ => if es.all (fun e => e.length == z) then some (.els es) else none
  | .row i v o n _ zr => if zr = z then some (.row i v o n) else none
  | .str s => if z = 1 then some (.els (s.map fun b => [.int .u8 b.toNat])) else none
  | _ => none

def mx2 : AV → AV → Option AV
  | .int k a, .int k' b => if k = k' then some (.int k (if a < b then b else a)) else none
  | _, _ => none

def mn2 : AV → AV → Option AV
  | .int k a, .int k' b => if k = k' then some (.int k (if b < a then b else a)) else none
  | _, _ => none

def foldO (f : AV → AV → Option AV) : AV → List AV → Option AV
  | a, [] => some a
  | a, b :: rest => do foldO f (← f a b) rest

def foldO1 (f : AV → AV → Option AV) : List AV → Option AV
  | [] => none
  | a :: rest => foldO f a rest

def put (fr : List AV) (dst : Option Nat) (v : AV) : List AV :=
  match dst with
  | some d => fr.set d v
  | none => fr

def mkParts (fr : List AV) (ps : List (Nat × Nat × Opd)) : List (Nat × Nat × AV) := ps.map fun (a, b, x) => (a, b, opd fr x)
def mkParts' (fr : List AV) (ps : List (Nat × Opd)) : List (Nat × AV) := ps.map fun (a, x) => (a, opd fr x)

def maxLn : Nat := 140737488355328

/-- What an operation does: 'b0': where the boxes begin that a region has laid ahead. -/
def act (fr : List AV) (b0 : Nat) : AOp → Option Act
  | .bad => none
  | .mv x => some (.val (opd fr x))
  | .pick c a b =>
    match opd fr c with
    | .bool t => some (.val (if t then opd fr a else opd fr b))
    | _ => none
  | .alloc z => some (.new [z])
  | .palloc k => some (.val (.ref (b0 + k) 0 0 0))
  | .box x => (opd fr x).cells.map fun cs => .new [cs]
  | .build z ps => (fill z (mkParts fr ps)).map fun cs => .val (.agg cs)
  | .lit n z ps => (fillRow z.length (List.replicate n z) (mkParts' fr ps)).map fun es => .val (.fs es true)
  | .load ag n a =>
    match opd fr a with
    | .ref i v e f => some (.load ag i v e f n)
    | .fptr cs => (partOf ag 0 n cs).map .val
    | _ => none
  | .store n a v =>
    match opd fr a, (opd fr v).cells with
    | .ref i v e f, some cs => if cs.length = n ∧ cs.all AV.one then some (.store i v e f cs) else none
    | _, _ => none
  | .nilchk x =>
    match isNil (opd fr x) with
    | some false => some (.val (opd fr x))
    | _ => none
  | .bin op x y =>
    match opd fr x with
    | .bool _ => none
    | a => (bin op a (opd fr y)).map .val
  | .binb op x y =>
    match opd fr x, opd fr y with
    | .bool a, .bool b => (bin op (.bool a) (.bool b)).map .val
    | _, _ => none
  | .str x =>
    match opd fr x with
    | .str s => some (.val (.str s))
    | _ => none
  | .eqa neg ks x y =>
    match opd fr x, opd fr y with
    | .agg a, .agg b => if a.map AV.kd = ks ∧ b.map AV.kd = ks then (eqs a b).map fun t => .val (.bool (t != neg)) else none
    | _, _ => none
  | .eqn k neg x => (isNilK k (opd fr x)).map fun t => .val (.bool (t != neg))
  | .un op x => (un op (opd fr x)).map .val
  | .conv k x =>
    match opd fr x with
    | .int _ n => some (.val (.int k (k.wrap n)))
    | _ => none
  | .s2b x =>
    match opd fr x with
    | .str s => some (.val (.fs (s.map fun b => [.int .u8 b.toNat]) false))
    | _ => none
  | .b2s x =>
    match opd fr x with
    | .nils => some (.val (.str []))
    | .fs es _ => (bytesOf es).map fun s => .val (.str s)
    | .row i v o n _ zr => if zr = 1 then some (.b2s i v o n) else none
    | _ => none
  | .mkif t x => if (opd fr x).one then some (.val (.iface t (opd fr x))) else none
  | .mkfn f cap => some (.val (.fn f (cap.map (opd fr))))
  | .mkmap ks => some (.newmap ks)
  | .mkslice z bytes l c =>
    match opd fr l, opd fr c with
    | .int _ l, .int _ c => if 0 ≤ l ∧ l ≤ c ∧ c * bytes ≤ maxLn ∧ c ≤ maxLn then some (.mkrow z.length l.toNat (List.replicate c.toNat z)) else none
    | _, _ => none
  | .slice z x lo hi mx =>
    match opd fr x with
    | .str _ => none
    | a => (cut z a (lo.map (opd fr)) (hi.map (opd fr)) (mx.map (opd fr))).map .val
  | .substr x lo hi mx =>
    match opd fr x with
    | .str s => (cut 0 (.str s) (lo.map (opd fr)) (hi.map (opd fr)) (mx.map (opd fr))).map .val
    | _ => none
  | .fld off x =>
    match opd fr x with
    | .ref i v e f => some (.val (.ref i v e (f + off)))
    | .fptr cs => if off ≤ cs.length then some (.val (.fptr (cs.drop off))) else none
    | _ => none
  | .part ag off n x =>
    match opd fr x with
    | .agg cs => (partOf ag off n cs).map .val
    | _ => none
  | .ixs z x i =>
    match opd fr x, opd fr i with
    | .fs es _, .int _ n =>
      if 0 ≤ n then
        match es[n.toNat]? with
        | some cs => if cs.length = z then some (.val (.fptr cs)) else none
        | none => none
      else none
    | .row i v o n _ zr, .int _ k => if 0 ≤ k ∧ k < n ∧ zr = z then some (.val (.ref i v (o + k.toNat) 0)) else none
    | _, _ => none
  | .ixa len z x i =>
    match opd fr x, opd fr i with
    | .ref i v e f, .int _ k => if 0 ≤ k ∧ k < len then some (.val (.ref i v e (f + k.toNat * z))) else none
    | .fptr cs, .int _ k => if 0 ≤ k ∧ k < len ∧ k.toNat * z ≤ cs.length then some (.val (.fptr (cs.drop (k.toNat * z)))) else none
    | _, _ => none
  | .ixv ag len z x i =>
    match opd fr x, opd fr i with
    | .agg cs, .int _ k => if 0 ≤ k ∧ k < len then (partOf ag (k.toNat * z) z cs).map .val else none
    | _, _ => none
  | .ixstr x i =>
    match opd fr x, opd fr i with
    | .str s, .int _ k =>
      if 0 ≤ k then
        match s[k.toNat]? with
        | some b => some (.val (.int .u8 b.toNat))
        | none => none
      else none
    | _, _ => none
  | .lookup ks z ok x k =>
    if (opd fr k).kds = ks then
      match opd fr x with
      | .nilm => some (.val (if ok then .tup [z, .bool false] else z))
      | .map i => some (.lookup ks z ok i (opd fr k))
      | _ => none
    else none
  | .mapupd ks m k v =>
    match opd fr m with
    | .map i => if (opd fr k).kds = ks then some (.mapupd ks i (opd fr k) (opd fr v)) else none
    | _ => none
  | .extract x i =>
    match opd fr x with
    | .tup vs => vs[i]?.map .val
    | _ => none
  | .callf f args => some (.call f (args.map (opd fr)))
  | .callv g args =>
    match opd fr g with
    | .fn f cap => some (.call f (args.map (opd fr) ++ cap))
    | .yld l => some (.round l (args.map (opd fr)))
    | _ => none
  | .append z bytes s x =>
    match opd fr s, srcOf z (opd fr x) with
    | .nils, some src => some (.appnew z bytes .nils [] src)
    | .fs es true, some src => if es.all (fun e => e.length == z) then some (.appnew z bytes (.fs es true) es src) else none
    | .row i v o n c zr, some src => if zr = z then some (.app z bytes i v o n c src) else none
    | _, _ => none
  | .appz z bytes s n =>
    match opd fr s, opd fr n with
    | .nils, .int _ k => if 0 < k ∧ k * bytes ≤ maxLn then some (.appnew z.length bytes .nils [] (.els (List.replicate k.toNat z))) else none
    | _, _ => none
  | .copy z d s =>
    match opd fr d, srcOf z (opd fr s) with
    | .row i v o n _ zr, some src => if zr = z then some (.copy z i v o n src) else none
    | _, _ => none
  | .clear z x =>
    match opd fr x with
    | .nils => some (.val (.tup []))
    | .fs [] _ => some (.val (.tup []))
    | .row i v o n _ zr => if zr = z.length then some (.fillz i v o n z) else none
    | _ => none
  | .len k x =>
    match k, opd fr x with
    | 0, .str s => some (.val (.int .i64 s.length))
    | 1, .nils => some (.val (.int .i64 0))
    | 2, .nilm => some (.val (.int .i64 0))
    | 1, .fs es _ => some (.val (.int .i64 es.length))
    | 1, .row _ _ _ n _ _ => some (.val (.int .i64 n))
    | 2, .map i => some (.maplen i)
    | _, _ => none
  | .cap x =>
    match opd fr x with
    | .nils => some (.val (.int .i64 0))
    | .fs es true => some (.val (.int .i64 es.length))
    | .row _ v _ _ c _ => if v % 2 = 1 then some (.val (.int .i64 c)) else none
    | _ => none
  | .mx args => (foldO1 mx2 (args.map (opd fr))).map .val
  | .mn args => (foldO1 mn2 (args.map (opd fr))).map .val
  | .rangem x =>
    match opd fr x with
    | .map i => some (.newiter i)
    | _ => none
  | .nextm x =>
    match opd fr x with
    | .ref i 0 0 0 => some (.next i)
    | _ => none
  | .entrym x =>
    match opd fr x with
    | .ref i 0 0 0 => some (.entry i)
    | _ => none

/-! ### The heap -/
def rdRow (h : Heap) (i v : Nat) : Option (List (List AV)) :=
  match h[i]? with
  | some (.cells v' es) => if v' = v then some es else none
  | _ => none

/-- A row's elements, from a place on, so many. -/
def rdEls (h : Heap) (i v o n : Nat) : Option (List (List AV)) := do
  let es ← rdRow h i v
  if o + n ≤ es.length then some ((es.drop o).take n) else none

def rdSrc (h : Heap) : Src → Option (List (List AV))
  | .els es => some es
  | .row i v o n => rdEls h i v o n

def find (k : AV) : List (AV × AV) → Option (Option AV)
  | [] => some none
  | (a, b) :: rest =>
    match eqk k a with
    | some true => some (some b)
    | some false => find k rest
    | none => none

/-- What a map holds behind a store: the list with the value at the key. -/
def upd (k v : AV) : List (AV × AV) → Option (List (AV × AV))
  | [] => some [(k, v)]
  | (a, b) :: rest =>
    match eqk k a with
    | some true => some ((k, v) :: rest)
    | some false => (upd k v rest).map ((a, b) :: ·)
    | none => none

/-- A value that may lie in a map. -/
def AV.held : AV → Bool
  | .any | .tup _ => false
  | .agg cs => cs.all AV.one
  | _ => true

def mapO {α β : Type} (f : α → Option β) : List α → Option (List β)
  | [] => some []
  | a :: as => do
    let b ← f a
    let bs ← mapO f as
    some (b :: bs)

/-- A value that outlives the boxes from 'lb' on: rows from there on are frozen. -/
def freeze (lb : Nat) (h : Heap) : Nat → AV → Option AV
  | 0, _ => none
  | d + 1, v =>
    if AV.under lb v then some v else
    match v with
    | .row i ver o n _ _ => do
      let es ← rdEls h i ver o n
      let es' ← mapO (mapO (freeze lb h d)) es
      some (.fs es' false)
    | .fs es x => do
      let es' ← mapO (mapO (freeze lb h d)) es
      some (.fs es' x)
    | .agg cs => do
      let cs' ← mapO (freeze lb h d) cs
      some (.agg cs')
    | .tup vs => do
      let vs' ← mapO (freeze lb h d) vs
      some (.tup vs')
    | _ => none

def depth : Nat := 12

/-- How a function's result and heap come out. -/
def leave (mode lb : Nat) (h0 h : Heap) (v : AV) : Option (AV × Heap) :=
  match mode with
  | 0 => some (v, h)
  | 2 => (freeze lb h depth v).map fun v' => (v', h0)
  | _ =>
    match v with
    | .row i ver o n _ z =>
      if lb ≤ i then do
        let es ← rdEls h i ver o n
        let es' ← mapO (mapO (freeze lb (h.set i .dead) depth)) es
        some (.row lb 0 0 n n z, h0 ++ [.cells 0 es'])
      else none
    | v => (freeze lb h depth v).map fun v' => (v', h0)

/-- The context in which a function's body runs. -/
def Ctx.enter (cx : Ctx) (mode lb : Nat) : Ctx :=
  match mode with
  | 0 => { cx with rd := none }
  | _ => { wp := lb, rd := none }

def results (fr : List AV) (h : Heap) : List Res → Option (List AV)
  | [] => some []
  | .t n :: rest => (results fr h rest).map (fr.getD n .any :: ·)
  | .cell t ag n :: rest =>
    match fr.getD t .any with
    | .ref i v e f => do
      let es ← rdRow h i v
      let cs ← es[e]?
      let x ← partOf ag f n cs
      let xs ← results fr h rest
      some (x :: xs)
    | _ => none

def result (fr : List AV) (h : Heap) (rs : List Res) : Option AV :=
  (results fr h rs).map fun l => match l with | [v] => v | l => .tup l

/-- The boxes of deferred calls are done with. -/
def killAll (lb : Nat) (h : Heap) : List Nat → Option Heap
  | [] => some h
  | i :: rest =>
    if lb ≤ i then
      match h[i]? with
      | some .defer => killAll lb (h.set i .dead) rest
      | _ => none
    else none

section eval
variable (T : Tab) (rec : Ctx → AC → St → Option (Ex × St))

/-- A round of a loop over a function. -/
def roundF (cx : Ctx) (l : Nat) (args : List AV) (h : Heap) : Option (AV × Heap) :=
  match h[l]? with
  | some (.loop lid tmps .ready) =>
    if cx.wp ≤ l then
      match T.loop lid with
      | some (ps, asg, body) =>
        if ps.length = args.length then
          match rec { cx with rd := some l } asg ⟨(ps.zip args).foldl (fun fr (p, v) => fr.set p v) tmps, [], h⟩ with
          | some (.nrm, st) =>
            match st.h[l]? with
            | some (.loop lid1 tmps1 .ready) =>
              match rec { cx with rd := some l } body { st with h := st.h.set l (.loop lid1 tmps1 .busy) } with
              | some (ex, st2) =>
                match st2.h[l]? with
                | some (.loop lid2 tmps2 _) =>
                  match ex with
                  | .nrm => some (.bool true, st2.h.set l (.loop lid2 tmps2 .ready))
                  | .ret => some (.bool false, st2.h.set l (.loop lid2 tmps2 (.done .ret)))
                  | .exit id => some (.bool false, st2.h.set l (.loop lid2 tmps2 (.done (.exit id))))
                | _ => none
              | none => none
            | _ => none
          | _ => none
        else none
      | none => none
    else none
  | _ => none

/-- A call. -/
def callF (cx : Ctx) (f : Nat) (args : List AV) (h : Heap) : Option (AV × Heap) :=
  match T.fn f with
  | some (.code a) =>
    if cx.wp ≤ h.length then
      match rec (cx.enter a.mode h.length) a.body ⟨args ++ List.replicate (a.ntmps - args.length) .any, [], h⟩ with
      | some (.nrm, st) | some (.ret, st) =>
        match killAll h.length st.h st.ds with
        | some h' => do
          let v ← result st.fr h' a.res
          leave a.mode h.length h h' v
        | none => none
      | _ => none
    else none
  | some (.prim p) => p cx.wp args h
  | none => none

def doAct (cx : Ctx) (h : Heap) : Act → Option (AV × Heap)
  | .val v => some (v, h)
  | .load ag i v e f n => do
    let es ← rdRow h i v
    let cs ← es[e]?
    let x ← partOf ag f n cs
    some (x, h)
  | .store i v e f cs => do
    if cx.wp ≤ i then
      let es ← rdRow h i v
      let old ← es[e]?
      if f + cs.length ≤ old.length then some (.tup [], h.set i (.cells v (es.set e (splice old f cs)))) else none
    else none
  | .new es => some (.ref h.length 0 0 0, h ++ [.cells 0 es])
  | .mkrow z n es => some (.row h.length 1 0 n es.length z, h ++ [.cells 1 es])
  | .newmap ks => some (.map h.length, h ++ [.map ks []])
  | .app z bytes i v o n c s => do
    let all ← rdRow h i v
    let new ← rdSrc h s
    if o + n ≤ all.length ∧ cx.wp ≤ i then
      if n + new.length ≤ c then
        if o + c ≤ all.length then
          some (.row i v o (n + new.length) c z, h.set i (.cells v (all.take (o + n) ++ new ++ all.drop (o + n + new.length))))
        else none
      else if (n + new.length) * bytes ≤ maxLn ∧ n + new.length ≤ maxLn then
        some (.row i (2 * v + 2) 0 (n + new.length) (n + new.length) z, h.set i (.cells (2 * v + 2) ((all.drop o).take n ++ new)))
      else none
    else none
  | .appnew z bytes s0 es s => do
    let new ← rdSrc h s
    if (es.length + new.length) * bytes ≤ maxLn ∧ es.length + new.length ≤ maxLn then
      if new.length = 0 then some (s0, h)
      else some (.row h.length 0 0 (es.length + new.length) (es.length + new.length) z, h ++ [.cells 0 (es ++ new)])
    else none
  | .lookup ks zero ok i k =>
    match h[i]? with
    | some (.map ks' es) =>
      if ks' = ks then do
        let r ← find k es
        let v := r.getD zero
        some (if ok then .tup [v, .bool r.isSome] else v, h)
      else none
    | _ => none
  | .maplen i =>
    match h[i]? with
    | some (.map _ es) => some (.int .i64 es.length, h)
    | _ => none
  | .mapupd ks i k v =>
    match h[i]? with
    | some (.map ks' es) =>
      if ks' = ks ∧ cx.wp ≤ i ∧ v.held then (upd k v es).map fun es' => (.tup [], h.set i (.map ks es')) else none
    | _ => none
  | .call f args => callF T rec cx f args h
  | .round l args => roundF T rec cx l args h
  | .copy z i v o n s => do
    let es ← rdRow h i v
    let new ← rdSrc h s
    if cx.wp ≤ i ∧ o + n ≤ es.length then
      let m := min n new.length
      some (.int .i64 m, h.set i (.cells v (es.take o ++ new.take m ++ es.drop (o + m))))
    else none
  | .fillz i v o n zero => do
    let es ← rdRow h i v
    if cx.wp ≤ i ∧ o + n ≤ es.length then
      some (.tup [], h.set i (.cells v (es.take o ++ List.replicate n zero ++ es.drop (o + n))))
    else none
  | .b2s i v o n => do
    let es ← rdEls h i v o n
    let s ← bytesOf es
    some (.str s, h)
  | .newiter m =>
    match h[m]? with
    | some (.map _ es) => some (.ref h.length 0 0 0, h ++ [.iter m es.length 0 es.length])
    | _ => none
  | .next i =>
    match h[i]? with
    | some (.iter m since pos _) =>
      match h[m]? with
      | some (.map _ es) =>
        if es.length = pos then some (.tup [.bool false], h)
        else if es.length = pos + 1 ∧ pos < since ∧ cx.wp ≤ i then
          match es[pos]? with
          | some (k, v) => some (.tup [.bool true, k, v], h.set i (.iter m since (pos + 1) es.length))
          | none => none
        else none
      | _ => none
    | _ => none
  | .entry i =>
    match h[i]? with
    | some (.iter m _ (pos + 1) last) =>
      match h[m]? with
      | some (.map _ es) =>
        if es.length = last then
          match es[pos]? with
          | some (k, v) => some (.tup [k, v], h)
          | none => none
        else none
      | _ => none
    | _ => none

def wanted (fr : List AV) : Option (Nat × Bool) → Option Bool
  | none => some true
  | some (t, want) =>
    match fr.getD t .any with
    | .bool b => some (b == want)
    | .tup _ => some false
    | _ => none

def runOps (cx : Ctx) (b0 : Nat) : List AO → St → Option St
  | [], st => some st
  | o :: rest, st =>
    match wanted st.fr o.guard with
    | some true => do
      let a ← act st.fr b0 o.op
      let (v, h) ← doAct T rec cx st.h a
      runOps cx b0 rest { st with fr := put st.fr o.dst v, h := h }
    | some false => runOps cx b0 rest { st with fr := put st.fr o.dst (.tup []) }
    | none => none

end eval

/-! ### What an act touches -/
mutual
def AV.beq : AV → AV → Bool
  | .bool a, .bool b => a == b
  | .int k a, .int k' b => decide (k = k') && decide (a = b)
  | .str a, .str b => decide (a = b)
  | .nilp, .nilp | .nils, .nils | .nilm, .nilm | .nilf, .nilf | .nili, .nili => true
  | .ref a b c d, .ref a' b' c' d' => decide (a = a') && decide (b = b') && decide (c = c') && decide (d = d')
  | .fptr a, .fptr b => AV.beqs a b
  | .fs a x, .fs b y => AV.beqss a b && x == y
  | .row a b c d e f, .row a' b' c' d' e' f' => decide (a = a') && decide (b = b') && decide (c = c') && decide (d = d') && decide (e = e') && decide (f = f')
  | .map a, .map b => decide (a = b)
  | .fn f a, .fn g b => decide (f = g) && AV.beqs a b
  | .yld a, .yld b => decide (a = b)
  | .iface t a, .iface u b => decide (t = u) && AV.beq a b
  | .agg a, .agg b => AV.beqs a b
  | .tup a, .tup b => AV.beqs a b
  | _, _ => false
def AV.beqs : List AV → List AV → Bool
  | [], [] => true
  | a :: as, b :: bs => AV.beq a b && AV.beqs as bs
  | _, _ => false
def AV.beqss : List (List AV) → List (List AV) → Bool
  | [], [] => true
  | a :: as, b :: bs => AV.beqs a b && AV.beqss as bs
  | _, _ => false
end

inductive Fp where
  | nop
  | rd (ag : Bool) (i v e f n : Nat)
  | wr (i e f n : Nat)
  | rda
  | eff (h h' : Heap)

def Tab.pure (T : Tab) (f : Nat) : Bool :=
  match T.fn f with
  | some (.code a) => a.mode == 2
  | _ => false

def Fp.of (T : Tab) (h h' : Heap) : Act → Fp
  | .val _ => .nop
  | .load ag i v e f n => .rd ag i v e f n
  | .store i _ e f cs => .wr i e f cs.length
  | .call f _ => if T.pure f then .rda else .eff h h'
  | _ => .eff h h'

def rdAt (h : Heap) (ag : Bool) (i v e f n : Nat) : Option AV := do
  let es ← rdRow h i v
  let cs ← es[e]?
  partOf ag f n cs

def Fp.ok : Fp → Fp → Bool
  | .nop, _ | _, .nop => true
  | .rd .., .rd .. | .rd .., .rda | .rda, .rd .. | .rda, .rda => true
  | .rd _ i _ e f n, .wr i' e' f' n' | .wr i' e' f' n', .rd _ i _ e f n => decide (i ≠ i' ∨ e ≠ e' ∨ f + max n 1 ≤ f' ∨ f' + n' ≤ f)
  | .wr i e f n, .wr i' e' f' n' => decide (i ≠ i' ∨ e ≠ e' ∨ f + n ≤ f' ∨ f' + n' ≤ f)
  | .rd ag i v e f n, .eff h h' | .eff h h', .rd ag i v e f n =>
    match rdAt h ag i v e f n, rdAt h' ag i v e f n with
    | some a, some b => AV.beq a b
    | _, _ => false
  | _, _ => false

section eval
variable (T : Tab) (rec : Ctx → AC → St → Option (Ex × St))

/-- As runOps, telling what each operation touches. -/
def runOpsF (cx : Ctx) (b0 : Nat) : List AO → St → Option (St × List Fp)
  | [], st => some (st, [])
  | o :: rest, st =>
    match wanted st.fr o.guard with
    | some true => do
      let a ← act st.fr b0 o.op
      let (v, h) ← doAct T rec cx st.h a
      let (st', fps) ← runOpsF cx b0 rest { st with fr := put st.fr o.dst v, h := h }
      some (st', Fp.of T st.h h a :: fps)
    | some false => do
      let (st', fps) ← runOpsF cx b0 rest { st with fr := put st.fr o.dst (.tup []) }
      some (st', .nop :: fps)
    | none => none

def region (cx : Ctx) (ops : List AO) (pre : List (List AV)) (unord : List (Nat × Nat)) (st : St) : Option St :=
  let b0 := st.h.length
  let st' := { st with h := st.h ++ pre.map fun z => .cells 0 [z] }
  match unord with
  | [] => runOps T rec cx b0 ops st'
  | _ => do
    let (st2, fps) ← runOpsF T rec cx b0 ops st'
    if unord.all (fun (i, j) => Fp.ok (fps.getD i (.eff [] [])) (fps.getD j (.eff [] []))) then some st2 else none

/-- A range over a function has ended. -/
def endLoop (l : Nat) (h : Heap) (st : St) : Option (Ex × St) :=
  match h[l]? with
  | some (.loop _ _ .ready) => some (.nrm, { st with h := h.set l .dead })
  | some (.loop _ _ (.done .ret)) => some (.ret, { st with h := h.set l .dead })
  | some (.loop _ _ (.done (.exit id))) => some (.exit id, { st with h := h.set l .dead })
  | _ => none

def killT (fr : List AV) : List Nat → List AV
  | [] => fr
  | t :: ts => killT (fr.set t .any) ts

def evalF (cx : Ctx) : AC → St → Option (Ex × St)
  | .bad, _ => none
  | .skip, st => some (.nrm, st)
  | .kill ts c, st => rec cx c { st with fr := killT st.fr ts }
  | .region ops pre unord, st => (region T rec cx ops pre unord st).map fun st' => (.nrm, st')
  | .seq a b, st =>
    match rec cx a st with
    | some (.nrm, st') => rec cx b st'
    | r => r
  | .cond c a b, st =>
    match opd st.fr c with
    | .bool t => rec cx (if t then a else b) st
    | _ => none
  | .block id c, st =>
    match rec cx c st with
    | some (.exit id', st') => some (if id' = id then .nrm else .exit id', st')
    | r => r
  | .loop c, st =>
    match rec cx c st with
    | some (.nrm, st') => rec cx (.loop c) st'
    | r => r
  | .exit id, st => some (.exit id, st)
  | .ret, st => some (.ret, st)
  | .rangef lid f, st =>
    match opd st.fr f, cx.rd with
    | .fn g cap, none =>
      let l := st.h.length + 1
      match callF T rec { cx with rd := none } g (.yld l :: cap) (st.h ++ [.defer] ++ [.loop lid st.fr .ready]) with
      | some (_, h2) => endLoop l h2 { st with ds := st.h.length :: st.ds }
      | none => none
    | .fn g cap, some l0 =>
      let l := st.h.length
      match st.h[l0]? with
      | some (.loop _ _ _) =>
        match callF T rec { cx with rd := none } g (.yld l :: cap) (st.h ++ [.loop lid st.fr .ready]) with
        | some (_, h2) => endLoop l h2 st
        | none => none
      | _ => none
    | _, _ => none

end eval

/-- The evaluator, with fuel. -/
def E (T : Tab) : Nat → Ctx → AC → St → Option (Ex × St)
  | 0, _, _, _ => none
  | k + 1, cx, c, st => evalF T (E T k) cx c st

end Go.AM
end

section
/- From the model's code to the abstract machine's. -/
namespace Go.AM

def cv1 : Value → Option AV
  | .bool b => some (.bool b)
  | .int k n => some (.int k n)
  | .string s => some (.str s.data.toList)
  | .pointer none => some .nilp
  | .slice none 0 0 => some .nils
  | .map none => some .nilm
  | .func (.func f) ⟨[]⟩ ⟨[]⟩ => some (.fn f [])
  | .nilFunc => some .nilf
  | .nilIface => some .nili
  | _ => none

def cv : Value → Option AV
  | .agg cs => (mapO cv1 cs.toList).map .agg
  | v => cv1 v

def trO : Operand → Option Opd
  | .tmp t => some (.t t)
  | .const v => (cv v).map .c
  | .func f => some (.c (.fn f []))
  | .global _ => none

def trOs (l : Array Operand) : Option (List Opd) := mapO trO l.toList

def trOO : Option Operand → Option (Option Opd)
  | none => some none
  | some x => (trO x).map some

section
variable (P : Program)

def size (t : TypeId) : Option Nat := (P.info? t).map (·.size)
def bytes (t : TypeId) : Option Nat := (P.info? t).map (·.bytes)
def isAg (t : TypeId) : Option Bool :=
  match P.underlying t with
  | some (.struct _) | some (.array _ _) => some true
  | some _ => some false
  | none => none
def zeroAV (t : TypeId) : Option AV := ((P.info? t).bind (·.zero)).bind cv
def zero (t : TypeId) : Option (List AV) := do
  let z ← zeroAV P t
  let cs ← z.cells
  let n ← size P t
  if cs.length = n then some cs else none

def plain1 : TypeDesc → Bool
  | .bool | .int _ | .string => true
  | _ => false

/-- The kinds of fields that lie one behind the other. -/
def kindsF (k : TypeId → Option (List Nat)) : Nat → List Field → Option (List Nat)
  | _, [] => some []
  | acc, f :: fs => do
    let ks ← k f.type
    if f.offset = acc ∧ f.name ≠ "_" then (kindsF k (acc + ks.length) fs).map (ks ++ ·) else none

def reps (n : Nat) (ks : List Nat) : List Nat :=
  match n with
  | 0 => []
  | n + 1 => ks ++ reps n ks

def kindsD (k : TypeId → Option (List Nat)) (t : TypeId) : TypeDesc → Option (List Nat)
  | .struct fs => if P.stoodInHeld t then none else kindsF k 0 fs.toList
  | .array n e => (k e).map (reps n)
  | .bool => some [0]
  | .int _ => some [1]
  | .string => some [2]
  | _ => none

/-- The kinds of the cells of a type whose values are compared cell by cell. -/
def kinds : Nat → TypeId → Option (List Nat)
  | 0, _ => none
  | d + 1, t =>
    match P.underlying t with
    | some ds =>
      match kindsD P (kinds d) t ds with
      | some ks => if size P t = some ks.length then some ks else none
      | none => none
    | none => none

/-- The kinds of a key's cells; an aggregate's begin with 7. -/
def keyKs (t : TypeId) : Option (List Nat) := do
  let ks ← kinds P 8 t
  if (← isAg P t) then some (7 :: ks) else some ks

def elemOf' (t : TypeId) : Option TypeId :=
  match P.underlying t with
  | some (.slice e) => some e
  | _ => none

def parts (fs : Array Field) : List (Nat × Operand) → Option (List (Nat × Nat × Opd))
  | [] => some []
  | (i, x) :: rest => do
    let f ← fs[i]?
    let n ← size P f.type
    let y ← trO x
    let r ← parts fs rest
    some ((f.offset, n, y) :: r)

def partsA (z : Nat) : List (Nat × Operand) → Option (List (Nat × Nat × Opd))
  | [] => some []
  | (i, x) :: rest => do
    let y ← trO x
    let r ← partsA z rest
    some ((i * z, z, y) :: r)

def partsS : List (Nat × Operand) → Option (List (Nat × Opd))
  | [] => some []
  | (i, x) :: rest => do
    let y ← trO x
    let r ← partsS rest
    some ((i, y) :: r)

def nilO : Operand → Option Nat
  | .const (.slice none 0 0) => some 0
  | .const (.map none) => some 1
  | .const .nilFunc => some 2
  | .const (.pointer none) => some 3
  | .const .nilIface => some 4
  | _ => none

def nilT : TypeDesc → Option Nat
  | .slice _ => some 0
  | .map _ _ => some 1
  | .func .. => some 2
  | .pointer _ => some 3
  | .interface _ => some 4
  | _ => none

def trBin (op : BinOp) (t : TypeId) (x y : Operand) : Option AOp := do
  let a ← trO x
  let b ← trO y
  match ← P.underlying t with
  | .int _ | .string => some (.bin op a b)
  | .bool => some (.binb op a b)
  | .struct _ | .array _ _ =>
    if !P.eqGuardType P.depth t then
      match op with
      | .eql => some (.eqa false (← kinds P 8 t) a b)
      | .neq => some (.eqa true (← kinds P 8 t) a b)
      | _ => none
    else none
  | ds =>
    match nilT ds with
    | some k =>
      match op with
      | .eql => if nilO y = some k then some (.eqn k false a) else if nilO x = some k then some (.eqn k false b) else none
      | .neq => if nilO y = some k then some (.eqn k true a) else if nilO x = some k then some (.eqn k true b) else none
      | _ => none
    | none => none

def trConv (s d : TypeId) (x : Operand) : Option AOp := do
  let a ← trO x
  match ← P.underlying s, ← P.underlying d with
  | .int _, .int k => some (.conv k a)
  | .string, .string => some (.str a)
  | .string, .slice e => match ← P.underlying e with | .int .u8 => some (.s2b a) | _ => none
  | .slice e, .string => match ← P.underlying e with | .int .u8 => some (.b2s a) | _ => none
  | _, _ => none

def trCall (c : Call) : Option AOp := do
  let args ← trOs c.args
  match c.callee with
  | .value (.func f) => some (.callf f args)
  | .value g => some (.callv (← trO g) args)
  | .invoke _ _ => none
  | .builtin b =>
    match b, args, c.argTypes.toList with
    | .append, [s, x], [t, u] =>
      let e ← elemOf' P t
      match ← P.underlying u with
      | .int _ => do
        let z ← zero P e
        if z.length = 0 then none else some (.appz z (← bytes P e) s x)
      | .slice e' => if (← size P e') = (← size P e) then some (.append (← zero P e).length (← bytes P e) s x) else none
      | .string => some (.append (← zero P e).length (← bytes P e) s x)
      | _ => none
    | .copy, [d, s], [t, _] => do
      let e ← elemOf' P t
      some (.copy (← size P e) d s)
    | .clear, [x], [t] => do
      let e ← elemOf' P t
      some (.clear (← zero P e) x)
    | .len, [x], [t] =>
      match ← P.underlying t with
      | .string => some (.len 0 x)
      | .slice _ => some (.len 1 x)
      | .map _ _ => some (.len 2 x)
      | .array n _ => some (.mv (.c (.int .i64 n)))
      | _ => none
    | .cap, [x], [t] =>
      match ← P.underlying t with
      | .slice _ => some (.cap x)
      | _ => none
    | .max, args, _ => some (.mx args)
    | .min, args, _ => some (.mn args)
    | _, _, _ => none

/-- One operation. -/
def trOp0 : Op → Option AOp
  | .move x | .assign x => (trO x).map .mv
  | .pick c a b => do some (.pick (← trO c) (← trO a) (← trO b))
  | .alloc e => (zero P e).map .alloc
  | .box e x => do
    let n ← size P e
    if n = 0 then none else some (.box (← trO x))
  | .build t ps => do
    let z ← zero P t
    match ← P.underlying t with
    | .struct fs => if fs.toList.all (fun f => (size P f.type).isSome) then some (.build z (← parts P fs ps.toList)) else none
    | .array _ e => some (.build z (← partsA (← size P e) ps.toList))
    | _ => none
  | .buildSlice t n ps => do
    let e ← elemOf' P t
    let z ← zero P e
    if n * z.length ≤ 16777216 ∧ z.length ≠ 0 then some (.lit n z (← partsS ps.toList)) else none
  | .load t a => do some (.load (← isAg P t) (← size P t) (← trO a))
  | .store t a x => do some (.store (← size P t) (← trO a) (← trO x))
  | .nilCheck x => (trO x).map .nilchk
  | .binOp op t x y _ => trBin P op t x y
  | .unOp op _ x => (trO x).map (.un op)
  | .convert s d x => trConv P s d x
  | .makeInterface t x => do
    match ← P.underlying t with
    | .interface _ => none
    | _ => some (.mkif t (← trO x))
  | .makeFunc fn first cap =>
    match fn, first.toList with
    | .func f, [] => (trOs cap).map (.mkfn f)
    | _, _ => none
  | .makeMap t r =>
    match r with
    | none => do
      match ← P.underlying t with
      | .map kt _ => some (.mkmap (← keyKs P kt))
      | _ => none
    | some _ => none
  | .makeSlice t l c => do
    let e ← elemOf' P t
    let z ← zero P e
    if z.length = 0 then none else some (.mkslice z (← bytes P e) (← trO l) (← trO c))
  | .slice t x lo hi mx => do
    let a ← trO x
    let l ← trOO lo
    let h ← trOO hi
    let m ← trOO mx
    if m.isSome && h.isNone then none else
    match ← P.underlying t with
    | .slice e => some (.slice (← size P e) a l h m)
    | .string => some (.substr a l h m)
    | _ => none
  | .fieldAddr s x i => do
    match ← P.underlying s with
    | .struct fs =>
      let f ← fs[i]?
      if (← size P f.type) = 0 then none else some (.fld f.offset (← trO x))
    | _ => none
  | .field s x i => do
    match ← P.underlying s with
    | .struct fs =>
      let f ← fs[i]?
      some (.part (← isAg P f.type) f.offset (← size P f.type) (← trO x))
    | _ => none
  | .indexAddr t x i => do
    match ← P.underlying t with
    | .slice e => if (← size P e) = 0 then none else some (.ixs (← size P e) (← trO x) (← trO i))
    | .array n e => some (.ixa n (← size P e) (← trO x) (← trO i))
    | _ => none
  | .index t x i => do
    match ← P.underlying t with
    | .array n e => some (.ixv (← isAg P e) n (← size P e) (← trO x) (← trO i))
    | .string => some (.ixstr (← trO x) (← trO i))
    | _ => none
  | .lookup t x k ok => do
    match ← P.underlying t with
    | .map kt e => some (.lookup (← keyKs P kt) (← zeroAV P e) ok (← trO x) (← trO k))
    | _ => none
  | .mapUpdate t m k v | .insert t m k v => do
    match ← P.underlying t with
    | .map kt _ => some (.mapupd (← keyKs P kt) (← trO m) (← trO k) (← trO v))
    | _ => none
  | .extract x i => do some (.extract (← trO x) i)
  | .range t x => do
    match ← P.underlying t with
    | .map _ _ => some (.rangem (← trO x))
    | _ => none
  | .next x s => if s then none else (trO x).map .nextm
  | .entry x => (trO x).map .entrym
  | .call c => trCall P c
  | _ => none

def AOp.isCall : AOp → Bool
  | .callf .. | .callv .. => true
  | _ => false

def AOp.isAlloc : AOp → Bool
  | .alloc _ => true
  | _ => false

def opAllocs : Op → Bool
  | .alloc _ => true
  | _ => false

def opCalls : Op → Bool
  | .call _ => true
  | _ => false

def trOp (op : Op) : Option AOp :=
  match trOp0 P op with
  | some a => if a.isCall && !opCalls op then none else if a.isAlloc && !opAllocs op then none else some a
  | none => none

theorem trOp_some {P : Program} {op : Op} {a : AOp} (h : trOp P op = some a) : trOp0 P op = some a ∧ (a.isCall = true → ∃ c, op = .call c) := by
  unfold trOp at h
  split at h
  · rename_i b hb
    split at h
    · cases h
    · rename_i hc
      split at h
      · cases h
      · injection h with h
        subst h
        refine ⟨hb, fun hi => ?_⟩
        cases op <;> first
          | exact ⟨_, rfl⟩
          | (simp [hi, opCalls] at hc)
  · cases h

theorem alloc_of {P : Program} {op : Op} {z : List AV} (h : trOp P op = some (.alloc z)) : ∃ e, op = .alloc e ∧ zero P e = some z := by
  have hs : ∃ e, op = .alloc e := by
    unfold trOp at h
    split at h
    · split at h
      · cases h
      · split at h
        · cases h
        · rename_i hc
          injection h with h
          subst h
          cases op <;> first
            | exact ⟨_, rfl⟩
            | (simp [AOp.isAlloc, opAllocs] at hc)
    · cases h
  obtain ⟨e, rfl⟩ := hs
  have h0 := (trOp_some h).1
  simp only [trOp0] at h0
  obtain ⟨z', hz, he⟩ := Option.map_eq_some_iff.1 h0
  injection he with he
  subst he
  exact ⟨e, rfl, hz⟩

def trG (ops : Array Oper) : Option (Nat × Bool) → Option (Option (Nat × Bool))
  | none => some none
  | some (g, w) =>
    match (ops[g]?).bind (·.dst) with
    | some t => some (some (t, w))
    | none => none

def trAO (ops : Array Oper) (o : Oper) : AO :=
  match trOp P o.op, trG ops o.guard with
  | some a, some g => ⟨o.dst, a, g⟩
  | _, g => ⟨o.dst, .bad, g.getD none⟩

/-- Allocations are laid ahead: 'k': how many so far. -/
def preAlloc : Nat → List AO → List AO × List (List AV)
  | _, [] => ([], [])
  | k, ⟨d, .alloc z, g⟩ :: rest => (⟨d, .palloc k, g⟩ :: (preAlloc (k + 1) rest).1, z :: (preAlloc (k + 1) rest).2)
  | k, ⟨d, .palloc _, g⟩ :: rest => (⟨d, .bad, g⟩ :: (preAlloc k rest).1, (preAlloc k rest).2)
  | k, o :: rest => (o :: (preAlloc k rest).1, (preAlloc k rest).2)

/-- 0: touches no box · 1: reads · 2: all else. -/
def cls (M : Nat → Bool) : AOp → Nat
  | .mv _ | .pick .. | .palloc _ | .build .. | .lit .. | .nilchk _ | .bin .. | .binb .. | .str _ | .eqa .. | .eqn .. | .un .. | .conv .. | .s2b _ | .mkif .. | .mkfn .. | .slice .. | .substr .. | .fld .. | .part .. | .ixs .. | .ixa .. | .ixv .. | .ixstr .. | .extract .. | .cap _ | .mx _ | .mn _ => 0
  | .load .. | .lookup .. | .len .. | .b2s _ => 1
  | .callf f _ => if M f then 1 else 2
  | _ => 2

/-- May two operations come in either order, as far as boxes go? 2: no. -/
def clash (a b : Nat) : Bool := (a == 2 && b != 0) || (b == 2 && a != 0)

/-- The temporaries that an operation looks at. -/
def Opd.ts : Opd → List Nat
  | .t n => [n]
  | .c _ => []

def oOpd : Option Opd → List Opd
  | none => []
  | some x => [x]

def AOp.opds : AOp → List Opd
  | .bad | .alloc _ | .palloc _ | .mkmap _ => []
  | .mv x | .box x | .load _ _ x | .nilchk x | .str x | .eqn _ _ x | .un _ x | .conv _ x | .s2b x | .b2s x | .mkif _ x | .fld _ x | .part _ _ _ x | .extract x _ | .clear _ x | .len _ x | .cap x | .rangem x | .nextm x | .entrym x => [x]
  | .pick a b c => [a, b, c]
  | .build _ ps => ps.map fun (_, _, x) => x
  | .lit _ _ ps => ps.map fun (_, x) => x
  | .store _ a b | .bin _ a b | .binb _ a b | .eqa _ _ a b | .mkslice _ _ a b | .ixs _ a b | .ixa _ _ a b | .ixv _ _ _ a b | .ixstr a b | .lookup _ _ _ a b | .append _ _ a b | .appz _ _ a b | .copy _ a b => [a, b]
  | .mkfn _ l | .callf _ l | .mx l | .mn l => l
  | .slice _ x a b c | .substr x a b c => x :: (oOpd a ++ oOpd b ++ oOpd c)
  | .mapupd _ a b c => [a, b, c]
  | .callv g l => g :: l

def AO.looks (o : AO) : List Nat := (o.op.opds.flatMap Opd.ts) ++ (match o.guard with | some (t, _) => [t] | none => [])

def AO.apart (x y : AO) : Bool :=
  (match x.dst with
   | some d => !(y.looks).contains d && y.dst != some d
   | none => true) &&
  (match y.dst with
   | some d => !(x.looks).contains d
   | none => true)

/-- What comes before, of an operation's own edges and theirs. -/
def befOf (acc : List Nat) (es : List Edge) : Nat :=
  es.foldl (fun s e => if Region.binds .any e then s ||| 2 ^ e.on ||| acc.getD e.on 0 else s) 0

def befs : List Oper → List Nat → List Nat
  | [], acc => acc
  | o :: os, acc => befs os (acc ++ [befOf acc o.after.toList])

/-- Each operation waits for earlier ones alone. -/
def backw : Nat → List Oper → Bool
  | _, [] => true
  | i, o :: os => o.after.toList.all (fun e => !Region.binds .any e || decide (e.on < i)) && backw (i + 1) os

/-- The pairs that the text's order alone orders: those that may clash; none: a pair hangs together by a temporary. -/
def unordWith (M : Nat → Bool) (aos : List AO) (bj : Nat) (oj : AO) (j : Nat) : Nat → List AO → Option (List (Nat × Nat))
  | _, [] => some []
  | i, oi :: rest => do
    let r ← unordWith M aos bj oj j (i + 1) rest
    if bj.testBit i then some r
    else
      if oi.apart oj then
        if clash (cls M oi.op) (cls M oj.op) then some ((i, j) :: r) else some r
      else none

def unords (M : Nat → Bool) (aos : List AO) (b : List Nat) : Nat → List AO → Option (List (Nat × Nat))
  | _, [] => some []
  | j, oj :: rest => do
    let r ← unords M aos b (j + 1) rest
    let s ← unordWith M aos (b.getD j 0) oj j 0 (aos.take j)
    some (r ++ s)

def trRegion (M : Nat → Bool) (ops : Array Oper) (draw : Bool) : AC :=
  let aos := ops.toList.map (trAO P ops)
  if draw then
    let (aos, pre) := preAlloc 0 aos
    if backw 0 ops.toList then
      match unords M aos (befs ops.toList []) 0 aos with
      | some u => .region aos pre u
      | none => .bad
    else .bad
  else .region aos [] []

def lidOf (f : Nat) (ps : Array Tmp) : Nat := f * 1000 + ps.toList.headD 0

def trC (M : Nat → Bool) (f : Nat) : Code → AC
  | .skip => .skip
  | .region _ ops draw => trRegion P M ops draw
  | .seq a b => .seq (trC M f a) (trC M f b)
  | .cond c a b => match trO c with | some x => .cond x (trC M f a) (trC M f b) | none => .bad
  | .block id c => .block id (trC M f c)
  | .loop c => .loop (trC M f c)
  | .exit id => .exit id
  | .ret => .ret
  | .rangeFunc g ps _ _ => match trO g with | some x => .rangef (lidOf f ps) x | none => .bad
  | _ => .bad

end

def strip : AC → AC
  | .kill _ c => strip c
  | .seq a b => .seq (strip a) (strip b)
  | .cond c a b => .cond c (strip a) (strip b)
  | .block id c => .block id (strip c)
  | .loop c => .loop (strip c)
  | c => c

def trRes (P : Program) : ResultVar → Option Res
  | .tmp t => some (.t t)
  | .cell a t => do some (.cell a (← isAg P t) (← size P t))

end Go.AM
end
