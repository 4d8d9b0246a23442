/- The engine, part 1: an abstract machine over the program's code (definitions). Values, a heap of numbered blocks, and the steps of compiled operations. -/
import Derived.Recover
import Derived.LoopN
import Derived.Orders
namespace Go.Proofs.YtahgfodccndcjaaGreatEng
open Go

/-- Keys in binary. -/
inductive Pos where
  | h
  | o (p : Pos)
  | i (p : Pos)
  deriving DecidableEq, Inhabited, Repr

namespace Pos
def succ : Pos → Pos
  | h => o h
  | o p => i p
  | i p => o (succ p)
def toNat : Pos → Nat
  | h => 1
  | o p => 2 * toNat p
  | i p => 2 * toNat p + 1
/-- The key of slot n. -/
def ofNat : Nat → Pos
  | 0 => h
  | n + 1 => succ (ofNat n)
end Pos

/-- Maps from keys. -/
inductive Tr (α : Type) where
  | lf
  | nd (l : Tr α) (v : Option α) (r : Tr α)
  deriving Inhabited

namespace Tr
variable {α : Type}
def get : Tr α → Pos → Option α
  | lf, _ => none
  | nd _ v _, .h => v
  | nd l _ _, .o p => get l p
  | nd _ _ r, .i p => get r p
def one : Pos → α → Tr α
  | .h, a => nd lf (some a) lf
  | .o p, a => nd (one p a) none lf
  | .i p, a => nd lf none (one p a)
def set : Tr α → Pos → α → Tr α
  | lf, p, a => one p a
  | nd l _ r, .h, a => nd l (some a) r
  | nd l v r, .o p, a => nd (set l p a) v r
  | nd l v r, .i p, a => nd l v (set r p a)
end Tr

/-- Abstract values. 'sl .. cap es': where cap is none, the capacity is not known, and elements take es cells. 'any': one cell of which nothing is known. 'ptr', 'sl', 'map', 'it' lead to a block of the abstract heap; 'rop', 'ros' bear the cells of memory that was there before and is only read. -/
inductive V where
  | bool (b : Bool)
  | int (k : IntKind) (n : Int)
  | str (s : List Nat)
  | nilp
  | ptr (x : Pos) (v o : Nat)
  | rop (c : List V) (o : Nat)
  | nils
  | sl (x : Pos) (v o len : Nat) (cap : Option Nat) (es : Nat)
  | ros (c : List V) (o len cap : Nat)
  | fn (f : Nat) (a b : List V)
  | nilf
  | mapn
  | map (x : Pos)
  | it (x : Pos)
  | iface (t : Nat) (v : V)
  | nili
  | agg (c : List V)
  | tup (c : List V)
  | any
  deriving Inhabited, Repr

def V.cells : V → List V
  | .agg c => c
  | v => [v]
def V.one : V → Bool
  | .agg _ | .tup _ => false
  | _ => true

/-- Blocks. 'cells ty c ver minv fz': the elements' type; contents; the current version; the oldest version that may be read; so many first cells may not be written (none: none may); how long the elder versions are, the last one first. -/
inductive Blk where
  | cells (ty : Nat) (c : List V) (ver minv : Nat) (fz : Option Nat) (ex : List Nat)
  | sit (s : List Nat) (pos : Nat)
  | mp (es : List (V × V))
  deriving Inhabited, Repr

structure H where
  m : Tr (Nat × Blk)
  nx : Pos
  ck : Nat
  deriving Inhabited

namespace H
def get (σ : H) (x : Pos) : Option Blk := match σ.m.get x with
  | some (_, b) => some b
  | none => none
def stamp (σ : H) (x : Pos) : Option Nat := match σ.m.get x with
  | some (n, _) => some n
  | none => none
def put (σ : H) (x : Pos) (b : Blk) : H := { m := σ.m.set x (σ.ck, b), nx := σ.nx, ck := σ.ck + 1 }
def new (σ : H) (b : Blk) : H := { m := σ.m.set σ.nx (σ.ck, b), nx := σ.nx.succ, ck := σ.ck + 1 }
def empty : H := { m := .lf, nx := .h, ck := 0 }
end H

/-- Operands of compiled operations. -/
inductive Arg where
  | t (p : Pos)
  | k (v : V)
  deriving Inhabited, Repr

/-- What a cell holds. -/
inductive SK where
  | bool | int | str | ptr | slice | map | func | ifc
  deriving Inhabited, Repr

/-- How two values of a type are compared: as they are; cell by cell. -/
inductive EqT where
  | sc (k : SK)
  | flat (n : Nat) (l : List (Nat × SK))
  | no
  deriving Inhabited, Repr

/-- Operations that look at no memory. -/
inductive POp where
  | mv (a : Arg)
  | pick (c a b : Arg)
  | bin (op : BinOp) (q : EqT) (a b : Arg)
  | un (op : UnOp) (a : Arg)
  | cii (k : IntKind) (a : Arg)
  | css (a : Arg)
  | cis (a : Arg)
  | mkif (t : Nat) (a : Arg)
  | mkfn (f : Nat) (a b : List Arg)
  | nilck (a : Arg)
  | faddr (off : Nat) (a : Arg)
  | iaddr (esz : Nat) (a i : Arg)
  | iarr (len esz : Nat) (a i : Arg)
  | idxs (a i : Arg)
  | idxa (len esz : Nat) (ag : Bool) (a i : Arg)
  | slis (a : Arg) (lo hi : Option Arg)
  | slsl (esz : Nat) (a : Arg) (lo hi mx : Option Arg)
  | slar (n esz : Nat) (a : Arg) (lo hi mx : Option Arg)
  | field (ag : Option Nat) (off : Nat) (a : Arg)
  | extract (i : Nat) (a : Arg)
  | lenS (a : Arg)
  | lens (a : Arg)
  | lena (n : Nat)
  | caps (a : Arg)
  | sdata (a : Arg)
  | tass (t : Nat) (ok : Bool) (z : V) (a : Arg)
  | build (zs : List V) (parts : List (Nat × Nat × Arg))
  | mn (l : List Arg)
  | mx (l : List Arg)
  | bad
  deriving Inhabited, Repr

/-- Operations that read memory. -/
inductive ROp where
  | load (ag : Option Nat) (a : Arg)
  | b2s (a : Arg)
  | lookup (z : V) (ok : Bool) (q : EqT) (m k : Arg)
  | lenm (m : Arg)
  | cpu (a : Arg)
  | cup (u sz : Nat) (a : Arg)
  deriving Inhabited, Repr

/-- Operations that make memory and do nothing else. -/
inductive AOp where
  | alloc (ty : Nat) (zs : List V)
  | box (ty : Nat) (a : Arg)
  | bslice (ty n : Nat) (zs : List V) (parts : List (Nat × Nat × Arg))
  | mkmap
  | mksl (ty eb : Nat) (zs : List V) (l c : Arg)
  | range (a : Arg)
  deriving Inhabited, Repr

/-- Operations that write memory, or call. -/
inductive HOp where
  | store (n : Nat) (a v : Arg)
  | s2b (ty : Nat) (a : Arg)
  | app (ty esz eb : Nat) (a b : Arg)
  | ustr (ty : Nat) (a n : Arg)
  | copy (esz : Nat) (a b : Arg)
  | next (a : Arg)
  | mupd (q : EqT) (m k v : Arg)
  | call (f : Nat) (args : List Arg)
  | calld (f : Arg) (args : List Arg)
  | dfr (f : Arg) (args : List Arg)
  | panic (a : Arg)
  | recover
  deriving Inhabited, Repr

inductive COp where
  | p (o : POp)
  | r (o : ROp)
  | a (o : AOp)
  | h (o : HOp)
  deriving Inhabited, Repr

structure CO where
  dst : Option Pos
  op : COp
  gd : Option (Pos × Bool)
  deriving Inhabited, Repr

/-- An operation in a region whose order is open: its place in the text; its kind: 0: no memory; 1: reads (between how many writers lo, hi it may stand); 2: acts; 3: new memory that may stand anywhere. tl: all behind it wait for it. -/
structure DO where
  co : CO
  at_ : Nat
  kind : Nat
  lo : Nat
  hi : Nat
  tl : Bool
  deriving Inhabited, Repr

inductive CC where
  | skip
  | reg (ops : List CO)
  | drw (ops : List DO)
  | seq (a b : CC)
  | cond (c : Arg) (a b : CC)
  | blk (id : Nat) (c : CC)
  | loop (c : CC)
  | exit (id : Nat)
  | ret
  | bad
  deriving Inhabited, Repr

inductive CRes where
  | t (p : Pos)
  | cell (p : Pos) (ag : Option Nat)
  deriving Inhabited, Repr

structure CFun where
  n : Nat
  res : List CRes
  body : CC
  deriving Inhabited, Repr

/-- A deferred call: a function and its arguments. -/
abbrev Df := Nat × List V

/-- What a step leaves. -/
inductive R where
  | bad
  | nx (τ : Tr V) (σ : H) (d : List Df)
  | ex (id : Nat) (τ : Tr V) (σ : H) (d : List Df)
  | rt (τ : Tr V) (σ : H) (d : List Df)
  | pn (v : V) (τ : Tr V) (σ : H) (d : List Df)
  deriving Inhabited

/-- What a call leaves. -/
inductive CR where
  | bad
  | ret (v : V) (σ : H)
  | pan (v : V) (σ : H)
  deriving Inhabited

/- ---- operations without memory ---- -/

def undefV : V := .tup []

def Arg.ev (τ : Tr V) : Arg → Option V
  | .t p => τ.get p
  | .k v => some v
def evL (τ : Tr V) : List Arg → Option (List V)
  | [] => some []
  | a :: l => match a.ev τ with
    | some v => match evL τ l with
      | some vs => some (v :: vs)
      | none => none
    | none => none

def ibin (op : BinOp) (k : IntKind) (a b : Int) : Option V :=
  match op with
  | .add => some (.int k (k.wrap (a + b)))
  | .sub => some (.int k (k.wrap (a - b)))
  | .mul => some (.int k (k.wrap (a * b)))
  | .quo => if b = 0 then none else some (.int k (k.wrap (a.tdiv b)))
  | .rem => if b = 0 then none else some (.int k (a.tmod b))
  | .and => some (.int k (k.wrap ((BitVec.ofInt k.bits a &&& BitVec.ofInt k.bits b).toNat)))
  | .or => some (.int k (k.wrap ((BitVec.ofInt k.bits a ||| BitVec.ofInt k.bits b).toNat)))
  | .xor => some (.int k (k.wrap ((BitVec.ofInt k.bits a ^^^ BitVec.ofInt k.bits b).toNat)))
  | .andNot => some (.int k (k.wrap ((BitVec.ofInt k.bits a &&& ~~~ BitVec.ofInt k.bits b).toNat)))
  | .eql => some (.bool (a == b))
  | .neq => some (.bool (a != b))
  | .lss => some (.bool (decide (a < b)))
  | .leq => some (.bool (decide (a ≤ b)))
  | .gtr => some (.bool (decide (a > b)))
  | .geq => some (.bool (decide (a ≥ b)))
  | _ => none

def ishift (op : BinOp) (k : IntKind) (a b : Int) : Option V :=
  if b < 0 then none else
  match op with
  | .shl => some (.int k (k.wrap (a * 2 ^ (min b.toNat k.bits))))
  | .shr => some (.int k (a.fdiv (2 ^ (min b.toNat k.bits))))
  | _ => none

def isShift : BinOp → Bool
  | .shl | .shr => true
  | _ => false

def natLess : List Nat → List Nat → Bool
  | _, [] => false
  | [], _ :: _ => true
  | a :: x, b :: y => Nat.blt a b || (Nat.beq a b && natLess x y)
def natEq : List Nat → List Nat → Bool
  | [], [] => true
  | a :: x, b :: y => Nat.beq a b && natEq x y
  | _, _ => false

def mostLen : Nat := 1099511627776

def sbin (op : BinOp) (a b : List Nat) : Option V :=
  match op with
  | .add => some (.str (a ++ b))
  | .eql => some (.bool (natEq a b))
  | .neq => some (.bool (!natEq a b))
  | .lss => some (.bool (natLess a b))
  | .leq => some (.bool (natLess a b || natEq a b))
  | .gtr => some (.bool (!(natLess a b || natEq a b)))
  | .geq => some (.bool (!natLess a b))
  | _ => none

/-- Equality of what lies in one cell. -/
def vsc (k : SK) (a b : V) : Option Bool :=
  match k with
  | .bool => match a, b with
    | .bool a, .bool b => some (a == b)
    | _, _ => none
  | .int => match a, b with
    | .int k a, .int k' b => if k = k' then some (a == b) else none
    | _, _ => none
  | .str => match a, b with
    | .str a, .str b => some (natEq a b)
    | _, _ => none
  | .ptr => match a, b with
    | .nilp, .nilp => some true
    | .ptr x v o, .ptr x' v' o' => if x = x' ∧ v = v' ∧ o = o' then some true else none
    | .nilp, .ptr .. | .ptr .., .nilp | .nilp, .rop .. | .rop .., .nilp => some false
    | _, _ => none
  | .slice => match a, b with
    | .nils, .nils => some true
    | .nils, .sl .. | .sl .., .nils | .nils, .ros .. | .ros .., .nils => some false
    | _, _ => none
  | .map => match a, b with
    | .mapn, .mapn => some true
    | .mapn, .map _ | .map _, .mapn => some false
    | _, _ => none
  | .func => match a, b with
    | .nilf, .nilf => some true
    | .nilf, .fn .. | .fn .., .nilf => some false
    | _, _ => none
  | .ifc => match a, b with
    | .nili, .nili => some true
    | .nili, .iface .. | .iface .., .nili => some false
    | .iface t _, .iface u _ => if t = u then none else some false
    | _, _ => none
def vflat (x y : List V) : List (Nat × SK) → Option Bool
  | [] => some true
  | (i, k) :: l => match x[i]?, y[i]? with
    | some a, some b => match vsc k a b with
      | some true => vflat x y l
      | some false => some false
      | none => none
    | _, _ => none
def veq (q : EqT) (a b : V) : Option Bool :=
  match q with
  | .sc k => vsc k a b
  | .flat n l => match a, b with
    | .agg x, .agg y => if x.length = n ∧ y.length = n then vflat x y l else none
    | _, _ => none
  | .no => none

def vbin (op : BinOp) (q : EqT) (a b : V) : Option V :=
  match a, b with
  | .int k x, .int k' y => if isShift op then ishift op k x y else if k = k' then ibin op k x y else none
  | .str x, .str y => if op == .add && !(decide (x.length + y.length ≤ mostLen)) then none else sbin op x y
  | x, y => match op with
    | .eql => match veq q x y with
      | some r => some (.bool r)
      | none => none
    | .neq => match veq q x y with
      | some r => some (.bool !r)
      | none => none
    | _ => none

def vun (op : UnOp) (a : V) : Option V :=
  match op, a with
  | .neg, .int k n => some (.int k (k.wrap (0 - n)))
  | .xor, .int k n => ibin .xor k (if k.signed then -1 else k.max) n
  | .not, .bool b => some (.bool !b)
  | _, _ => none

def asI : V → Option Int
  | .int _ n => some n
  | _ => none

/-- bounds of a slice expression -/
def bnd (a : Option V) (dflt most : Nat) : Option Nat :=
  match a with
  | none => some dflt
  | some v => match v with
    | .int _ n => if 0 ≤ n ∧ n ≤ most then some n.toNat else none
    | _ => none

def ofOpt (τ : Tr V) : Option Arg → Option (Option V)
  | none => some none
  | some a => match a.ev τ with
    | some v => some (some v)
    | none => none

def vslsl (esz : Nat) (a : V) (lo hi mx : Option V) : Option V :=
  match a with
  | .nils => match bnd mx 0 0 with
    | some m => match bnd hi 0 m with
      | some h => match bnd lo 0 h with
        | some _ => some .nils
        | none => none
      | none => none
    | none => none
  | .sl x v o len none es => if es = esz then match mx with
    | none => match bnd hi len len with       -- the capacity is not known: up to the length
      | some h => match bnd lo 0 h with
        | some l => some (.sl x v (o + l * esz) (h - l) none es)
        | none => none
      | none => none
    | some m => match bnd (some m) 0 len with
      | some m => match bnd hi len m with
        | some h => match bnd lo 0 h with
          | some l => some (.sl x v (if m = l then o else o + l * esz) (h - l) (some (m - l)) 0)
          | none => none
        | none => none
      | none => none
    else none
  | .sl x v o len (some c) es => match bnd mx c c with
      | some m => match bnd hi len m with
        | some h => match bnd lo 0 h with
          | some l => some (.sl x v (if m = l then o else o + l * esz) (h - l) (some (m - l)) es)
          | none => none
        | none => none
      | none => none
  | .ros cs o len c => match bnd mx c c with
      | some m => match bnd hi len m with
        | some h => match bnd lo 0 h with
          | some l => some (.ros cs (if m = l then o else o + l * esz) (h - l) (m - l))
          | none => none
        | none => none
      | none => none
  | _ => none

def fillL (zs : List V) : List (Nat × Nat × V) → Option (List V)
  | [] => some zs
  | (off, size, v) :: r =>
    let c := v.cells
    if c.length = size ∧ off + size ≤ zs.length then fillL (zs.take off ++ c ++ zs.drop (off + size)) r else none

def evParts (τ : Tr V) : List (Nat × Nat × Arg) → Option (List (Nat × Nat × V))
  | [] => some []
  | (o, s, a) :: r => match a.ev τ with
    | some v => match evParts τ r with
      | some l => some ((o, s, v) :: l)
      | none => none
    | none => none

def cut (c : List V) (o n : Nat) : Option (List V) := if o + n ≤ c.length then some ((c.drop o).take n) else none

def pick1 (ag : Option Nat) (c : List V) (o : Nat) : Option V :=
  match ag with
  | none => c[o]?
  | some n => match cut c o n with
    | some l => some (.agg l)
    | none => none

/-- the place of an element: its address, where the slice leads there -/
def elemAt (esz : Nat) (a : V) (i : Int) : Option V :=
  match a with
  | .sl x v o len _ _ => if 0 ≤ i ∧ i < len then some (.ptr x v (o + i.toNat * esz)) else none
  | .ros c o len _ => if 0 ≤ i ∧ i < len then some (.rop c (o + i.toNat * esz)) else none
  | _ => none

def minL : Int → List V → IntKind → Option Int
  | m, [], _ => some m
  | m, .int k n :: r, k0 => if k = k0 then minL (if n < m then n else m) r k0 else none
  | _, _ :: _, _ => none
def maxL : Int → List V → IntKind → Option Int
  | m, [], _ => some m
  | m, .int k n :: r, k0 => if k = k0 then maxL (if n > m then n else m) r k0 else none
  | _, _ :: _, _ => none

def encRune (r : Int) : List Nat := (Utf8.encode r).data.toList.map (·.toNat)

def POp.ev (τ : Tr V) : POp → Option V
  | .mv a => a.ev τ
  | .pick c a b => match c.ev τ with
    | some (.bool true) => a.ev τ
    | some (.bool false) => b.ev τ
    | _ => none
  | .bin op q a b => match a.ev τ with
    | some x => match b.ev τ with
      | some y => vbin op q x y
      | none => none
    | none => none
  | .un op a => match a.ev τ with
    | some x => vun op x
    | none => none
  | .cii k a => match a.ev τ with
    | some (.int _ n) => some (.int k (k.wrap n))
    | _ => none
  | .css a => match a.ev τ with
    | some (.str s) => some (.str s)
    | _ => none
  | .cis a => match a.ev τ with
    | some (.int _ n) => some (.str (encRune n))
    | _ => none
  | .mkif t a => match a.ev τ with
    | some v => some (.iface t v)
    | none => none
  | .mkfn f a b => match evL τ a with
    | some x => match evL τ b with
      | some y => some (.fn f x y)
      | none => none
    | none => none
  | .nilck a => match a.ev τ with
    | some (.ptr x v o) => some (.ptr x v o)
    | some (.rop c o) => some (.rop c o)
    | some (.fn f x y) => some (.fn f x y)
    | some (.iface t v) => some (.iface t v)
    | _ => none
  | .faddr off a => match a.ev τ with
    | some (.ptr x v o) => some (.ptr x v (o + off))
    | some (.rop c o) => some (.rop c (o + off))
    | _ => none
  | .iaddr esz a i => match a.ev τ with
    | some s => match i.ev τ with
      | some (.int _ n) => elemAt esz s n
      | _ => none
    | none => none
  | .iarr len esz a i => match a.ev τ with
    | some p => match i.ev τ with
      | some (.int _ n) => if 0 ≤ n ∧ n < len then
          match p with
          | .ptr x v o => some (.ptr x v (o + n.toNat * esz))
          | .rop c o => some (.rop c (o + n.toNat * esz))
          | _ => none
        else none
      | _ => none
    | none => none
  | .idxs a i => match a.ev τ with
    | some (.str s) => match i.ev τ with
      | some (.int _ n) => if 0 ≤ n then
          match s[n.toNat]? with
          | some b => some (.int .u8 b)
          | none => none
        else none
      | _ => none
    | _ => none
  | .idxa len esz ag a i => match a.ev τ with
    | some (.agg c) => match i.ev τ with
      | some (.int _ n) => if 0 ≤ n ∧ n < len then
          pick1 (if ag then some esz else none) c (n.toNat * esz)
        else none
      | _ => none
    | _ => none
  | .slis a lo hi => match a.ev τ with
    | some (.str s) => match ofOpt τ lo with
      | some lo => match ofOpt τ hi with
        | some hi => match bnd hi s.length s.length with
          | some h => match bnd lo 0 h with
            | some l => some (.str ((s.drop l).take (h - l)))
            | none => none
          | none => none
        | none => none
      | none => none
    | _ => none
  | .slsl esz a lo hi m0 => match a.ev τ with
    | some s => match ofOpt τ lo with
      | some lo => match ofOpt τ hi with
        | some hi => match ofOpt τ m0 with
          | some m0 => match m0, hi with
            | some _, none => none
            | _, _ => vslsl esz s lo hi m0
          | none => none
        | none => none
      | none => none
    | none => none
  | .slar n esz a lo hi m0 => match a.ev τ with
    | some p => match ofOpt τ lo with
      | some lo => match ofOpt τ hi with
        | some hi => match ofOpt τ m0 with
          | some m0 => match m0, hi with
            | some _, none => none
            | _, _ => match bnd m0 n n with
              | some m => match bnd hi n m with
                | some h => match bnd lo 0 h with
                  | some l => match p with
                    | .ptr x v o => some (.sl x v (if m = l then o else o + l * esz) (h - l) (some (m - l)) 0)
                    | .rop c o => some (.ros c (if m = l then o else o + l * esz) (h - l) (m - l))
                    | _ => none
                  | none => none
                | none => none
              | none => none
          | none => none
        | none => none
      | none => none
    | none => none
  | .field ag off a => match a.ev τ with
    | some (.agg c) => pick1 ag c off
    | _ => none
  | .extract i a => match a.ev τ with
    | some (.tup c) => c[i]?
    | _ => none
  | .lenS a => match a.ev τ with
    | some (.str s) => some (.int .i64 s.length)
    | _ => none
  | .lens a => match a.ev τ with
    | some .nils => some (.int .i64 0)
    | some (.sl _ _ _ n _ _) => some (.int .i64 n)
    | some (.ros _ _ n _) => some (.int .i64 n)
    | _ => none
  | .lena n => some (.int .i64 n)
  | .caps a => match a.ev τ with
    | some .nils => some (.int .i64 0)
    | some (.sl _ _ _ _ (some c) _) => some (.int .i64 c)
    | some (.ros _ _ _ c) => some (.int .i64 c)
    | _ => none
  | .sdata a => match a.ev τ with
    | some .nils => some .nilp
    | some (.sl x v o len _ _) => if 0 < len then some (.ptr x v o) else none
    | _ => none
  | .tass t ok z a => match a.ev τ with
    | some (.iface u v) => if u = t then some (if ok then .tup [v, .bool true] else v) else if ok then some (.tup [z, .bool false]) else none
    | some .nili => if ok then some (.tup [z, .bool false]) else none
    | _ => none
  | .build zs parts => match evParts τ parts with
    | some l => match fillL zs l with
      | some c => some (.agg c)
      | none => none
    | none => none
  | .mn l => match evL τ l with
    | some (.int k n :: r) => match minL n r k with
      | some m => some (.int k m)
      | none => none
    | _ => none
  | .mx l => match evL τ l with
    | some (.int k n :: r) => match maxL n r k with
      | some m => some (.int k m)
      | none => none
    | _ => none
  | .bad => none

/- ---- operations that read ---- -/

/-- what a version of a block may read of its contents -/
def visib (c : List V) (ver minv : Nat) (ex : List Nat) (v : Nat) : Option (List V) :=
  if v = ver then some c else
  if minv ≤ v ∧ v < ver then match ex[ver - 1 - v]? with
    | some e => some (c.take e)
    | none => none
  else none
def blkCells (σ : H) (x : Pos) (v : Nat) : Option (List V) :=
  match σ.get x with
  | some (.cells _ c ver minv _ ex) => visib c ver minv ex v
  | _ => none

/-- the cells of a slice's first n elements -/
def slCells (σ : H) (esz : Nat) (n : Nat) : V → Option (List V)
  | .nils => if n = 0 then some [] else none
  | .sl x v o _ _ _ => match blkCells σ x v with
    | some c => cut c o (n * esz)
    | none => none
  | .ros c o _ _ => cut c o (n * esz)
  | .str s => if n ≤ s.length then some ((s.take n).map fun b : Nat => .int .u8 (b : Int)) else none
  | _ => none
def slLen : V → Option Nat
  | .nils => some 0
  | .sl _ _ _ n _ _ => some n
  | .ros _ _ n _ => some n
  | .str s => some s.length
  | _ => none

def toBytes : List V → Option (List Nat)
  | [] => some []
  | .int .u8 n :: r => if 0 ≤ n ∧ n < 256 then match toBytes r with
      | some l => some (n.toNat :: l)
      | none => none
    else none
  | _ :: _ => none

def findK (q : EqT) (k : V) : List (V × V) → Option (Option V)
  | [] => some none
  | (a, v) :: r => match veq q k a with
    | some true => some (some v)
    | some false => findK q k r
    | none => none

/- is the block's first element a variable of the type, of sz cells? -/
def headOf (σ : H) (u sz : Nat) (x : Pos) : Bool :=
  match σ.get x with
  | some (.cells ty c 0 _ _ _) => ty == u && decide (0 < sz) && decide (sz ≤ c.length)
  | _ => false

/-- may it be asked for in a map whose keys are compared so? -/
def keyOk (q : EqT) (k : V) : Bool :=
  match q, k with
  | .sc .int, .int .. | .sc .str, .str _ | .sc .bool, .bool _ => true
  | .flat n _, .agg c => c.length == n
  | _, _ => false

def ROp.ev (τ : Tr V) (σ : H) : ROp → Option V
  | .load ag a => match a.ev τ with
    | some (.ptr x v o) => match blkCells σ x v with
      | some c => pick1 ag c o
      | none => none
    | some (.rop c o) => pick1 ag c o
    | _ => none
  | .b2s a => match a.ev τ with
    | some s => match s with
      | .str _ => none
      | _ => match slLen s with
        | some n => match slCells σ 1 n s with
          | some c => match toBytes c with
            | some l => some (.str l)
            | none => none
          | none => none
        | none => none
    | none => none
  | .lookup z ok q m k => match m.ev τ with
    | some (.map x) => match k.ev τ with
      | some k => if keyOk q k then match σ.get x with
        | some (.mp es) => match findK q k es with
          | some (some v) => some (if ok then .tup [v, .bool true] else v)
          | some none => some (if ok then .tup [z, .bool false] else z)
          | none => none
        | _ => none
        else none
      | none => none
    | _ => none
  | .lenm m => match m.ev τ with
    | some .mapn => some (.int .i64 0)
    | some (.map x) => match σ.get x with
      | some (.mp es) => some (.int .i64 es.length)
      | _ => none
    | _ => none
  | .cpu a => match a.ev τ with
    | some .nilp => some .nilp
    | some (.ptr x v o) => match blkCells σ x v with
      | some c => if o < c.length then some (.ptr x v o) else none
      | none => none
    | _ => none
  | .cup u sz a => match a.ev τ with
    | some .nilp => some .nilp
    | some (.ptr x v o) => if o = 0 ∧ v = 0 ∧ headOf σ u sz x = true then some (.ptr x v o) else none
    | _ => none

/-- the block that a reading operation looks at (none: no block of the heap; the outer none: not known) -/
def ROp.foot (τ : Tr V) : ROp → Option (Option Pos)
  | .load _ a => match a.ev τ with
    | some (.ptr x _ _) => some (some x)
    | some (.rop _ _) => some none
    | _ => none
  | .b2s a => match a.ev τ with
    | some (.sl x _ _ _ _ _) => some (some x)
    | some .nils => some none
    | some (.ros ..) => some none
    | _ => none
  | .lookup _ _ _ m _ => match m.ev τ with
    | some (.map x) => some (some x)
    | _ => none
  | .lenm m => match m.ev τ with
    | some (.map x) => some (some x)
    | some .mapn => some none
    | _ => none
  | .cpu a | .cup _ _ a => match a.ev τ with
    | some (.ptr x _ _) => some (some x)
    | some .nilp => some none
    | _ => none

/- ---- operations that act ---- -/

def putCells (σ : H) (x : Pos) (v o : Nat) (vs : List V) : Option H :=
  match σ.get x with
  | some (.cells ty c ver _ (some fz) ex) =>
    if v = ver ∧ fz ≤ o ∧ o + vs.length ≤ c.length ∧ vs.all V.one = true then some (σ.put x (.cells ty (c.take o ++ vs ++ c.drop (o + vs.length)) ver ver (some fz) ex)) else none
  | _ => none

def mostBytes : Nat := 140737488420864

/-- a new row for what is appended -/
def vgrow (σ : H) (ty esz eb n : Nat) (c : List V) : Option (V × H) :=
  if n * eb ≤ mostBytes ∧ n ≤ mostBytes ∧ 0 < esz then some (.sl σ.nx 0 0 n none esz, σ.new (.cells ty c 0 0 (some 0) [])) else none

/-- append: k elements more, their cells given -/
def vapp (σ : H) (ty esz eb k : Nat) (a : V) (new : List V) : Option (V × H) :=
  match a with
  | .nils => if k = 0 then some (.nils, σ) else vgrow σ ty esz eb k new
  | .ros c o len cap => if k = 0 then some (a, σ) else
    if len + k ≤ cap then none else
    match cut c o (len * esz) with
    | some old => vgrow σ ty esz eb (len + k) (old ++ new)
    | none => none
  | .sl x v o len cap es => if k = 0 then some (a, σ) else
    match cap with
    | some c =>
      if len + k ≤ c then match putCells σ x v (o + len * esz) new with
        | some σ' => some (.sl x v o (len + k) cap es, σ')
        | none => none
      else match slCells σ esz len a with
        | some old => vgrow σ ty esz eb (len + k) (old ++ new)
        | none => none
    | none =>
      match σ.get x with
      | some (.cells ty' c ver minv (some fz) ex) =>
        if v = ver ∧ ty = ty' ∧ es = esz ∧ 0 < esz ∧ (len + k) * eb ≤ mostBytes ∧ len + k ≤ mostBytes ∧ fz ≤ o + len * esz ∧ o + len * esz ≤ c.length ∧ new.all V.one = true then
          if o + len * esz = c.length then some (.sl x (ver + 1) o (len + k) none es, σ.put x (.cells ty (c ++ new) (ver + 1) minv (some fz) (c.length :: ex)))
          else if o + (len + k) * esz ≤ c.length then some (.sl x ver o (len + k) none es, σ.put x (.cells ty (c.take (o + len * esz) ++ new ++ c.drop (o + (len + k) * esz)) ver ver (some fz) ex))
          else some (.sl x (ver + 1) o (len + k) none es, σ.put x (.cells ty (c.take (o + len * esz) ++ new) (ver + 1) (ver + 1) (some fz) (c.length :: ex)))
        else none
      | _ => none
  | _ => none

def vcopy (σ : H) (esz : Nat) (a b : V) : Option (V × H) :=
  match slLen a, slLen b with
  | some n, some m =>
    let k := min m n
    match slCells σ esz k b with
    | some c => match a with
      | .str _ => none
      | .sl x v o _ _ _ => if c.length = 0 then some (.int .i64 k, σ) else
        match putCells σ x v o c with
        | some σ' => some (.int .i64 k, σ')
        | none => none
      | _ => if c.length = 0 then some (.int .i64 k, σ) else none
    | none => none
  | _, _ => none

def repl (zs : List V) : Nat → List V
  | 0 => []
  | n + 1 => zs ++ repl zs n

/- Utf8.decode on a list -/
def dec (s : List Nat) (i : Nat) : Nat × Nat :=
  let n := s.length
  let g (k : Nat) : Nat := s.getD (i + k) 0
  let cont (k : Nat) : Bool := decide (i + k < n) && g k / 64 == 2
  let b0 := g 0
  if b0 < 0x80 then (b0, 1)
  else if b0 / 32 == 6 && cont 1 then
    let c := (b0 % 32) * 64 + g 1 % 64
    if c ≥ 0x80 then (c, 2) else (Utf8.runeError, 1)
  else if b0 / 16 == 14 && cont 1 && cont 2 then
    let c := (b0 % 16) * 4096 + (g 1 % 64) * 64 + g 2 % 64
    if c ≥ 0x800 && Utf8.valid c then (c, 3) else (Utf8.runeError, 1)
  else if b0 / 8 == 30 && cont 1 && cont 2 && cont 3 then
    let c := (b0 % 8) * 262144 + (g 1 % 64) * 4096 + (g 2 % 64) * 64 + g 3 % 64
    if c ≥ 0x10000 && Utf8.valid c then (c, 4) else (Utf8.runeError, 1)
  else (Utf8.runeError, 1)

/-- the same plain value? -/
def plainSame : V → V → Bool
  | .bool a, .bool b => a == b
  | .int k a, .int k' b => if k = k' then decide (a = b) else false
  | .str a, .str b => natEq a b
  | _, _ => false
def plainAll : List V → List V → Bool
  | [], [] => true
  | a :: x, b :: y => plainSame a b && plainAll x y
  | _, _ => false
def plainEq : V → V → Bool
  | .agg a, .agg b => plainAll a b
  | a, b => plainSame a b
/-- may an element of a string stand for a cell? -/
def strOne (esz : Nat) : V → Bool
  | .str _ => Nat.beq esz 1
  | _ => true

def setK (q : EqT) (k v : V) : List (V × V) → Option (List (V × V))
  | [] => some [(k, v)]
  | (a, w) :: r => match veq q k a with
    | some true => if plainEq k a then some ((a, v) :: r) else none
    | some false => match setK q k v r with
      | some l => some ((a, w) :: l)
      | none => none
    | none => none

inductive HR where
  | bad
  | ok (v : V) (σ : H)
  | call (f : Nat) (args : List V)
  | dfr (d : Df)
  | pan (v : V)
  | recover

def HR.of : Option (V × H) → HR
  | some (v, σ) => .ok v σ
  | none => .bad

/-- What leads to new memory. -/
inductive AK where
  | ptr
  | sl (n c : Nat)
  | map
  | it
def AK.val : AK → Pos → V
  | ptr, x => .ptr x 0 0
  | sl n c, x => .sl x 0 0 n (some c) 0
  | map, x => .map x
  | it, x => .it x

def AOp.ev (τ : Tr V) : AOp → Option (AK × Blk)
  | .alloc ty zs => some (.ptr, .cells ty zs 0 0 (some 0) [])
  | .box ty a => match a.ev τ with
    | some v => some (.ptr, .cells ty v.cells 0 0 (some 0) [])
    | none => none
  | .bslice ty n zs parts => match evParts τ parts with
    | some l => match fillL zs l with
      | some c => some (.sl n n, .cells ty c 0 0 (some 0) [])
      | none => none
    | none => none
  | .mkmap => some (.map, .mp [])
  | .mksl ty eb zs l c => match l.ev τ with
    | some (.int .i64 l) => match c.ev τ with
      | some (.int .i64 c) => if 0 ≤ l ∧ l ≤ c ∧ c.toNat * eb ≤ mostBytes ∧ c < 140737488420864 then
          some (.sl l.toNat c.toNat, .cells ty (repl zs c.toNat) 0 0 (some 0) [])
        else none
      | _ => none
    | _ => none
  | .range a => match a.ev τ with
    | some (.str s) => some (.it, .sit s 0)
    | _ => none

def HOp.ev (τ : Tr V) (σ : H) : HOp → HR
  | .store n a v => match a.ev τ with
    | some (.ptr x ver o) => match v.ev τ with
      | some v => if v.cells.length = n then
          match putCells σ x ver o v.cells with
          | some σ' => .ok undefV σ'
          | none => .bad
        else .bad
      | none => .bad
    | _ => .bad
  | .s2b ty a => match a.ev τ with
    | some (.str s) => if s.length ≤ mostLen then .ok (.sl σ.nx 0 0 s.length none 1) (σ.new (.cells ty (s.map fun b : Nat => .int .u8 (b : Int)) 0 0 none [])) else .bad
    | _ => .bad
  | .app ty esz eb a b => match a.ev τ with
    | some x => match b.ev τ with
      | some y => if strOne esz y then match slLen y with
        | some k => match slCells σ esz k y with
          | some c => .of (vapp σ ty esz eb k x c)
          | none => .bad
        | none => .bad
        else .bad
      | none => .bad
    | none => .bad
  | .ustr u a n => match a.ev τ with
    | some p => match n.ev τ with
      | some (.int .i64 n) => match p with
        | .nilp => if n = 0 then .ok (.str []) σ else .bad
        | .rop _ _ => if n = 0 then .ok (.str []) σ else .bad
        | .ptr x v o => if n = 0 then .ok (.str []) σ else
          match σ.get x with
          | some (.cells ty c ver minv (some fz) ex) => if v = ver ∧ ty = u ∧ o = 0 ∧ 0 < n ∧ n < 1099511627776 then
              match cut c o n.toNat with
              | some l => match toBytes l with
                | some b => .ok (.str b) (σ.put x (.cells ty c ver minv (some (max fz (o + n.toNat))) ex))
                | none => .bad
              | none => .bad
            else .bad
          | _ => .bad
        | _ => .bad
      | _ => .bad
    | none => .bad
  | .copy esz a b => match a.ev τ with
    | some x => match b.ev τ with
      | some y => if strOne esz y then .of (vcopy σ esz x y) else .bad
      | none => .bad
    | none => .bad
  | .next a => match a.ev τ with
    | some (.it x) => match σ.get x with
      | some (.sit s p) =>
        if p < s.length then
          match dec s p with
          | (c, w) => .ok (.tup [.bool true, .int .i64 p, .int .i32 c]) (σ.put x (.sit s (p + w)))
        else .ok (.tup [.bool false]) σ
      | _ => .bad
    | _ => .bad
  | .mupd q m k v => match m.ev τ with
    | some (.map x) => match k.ev τ with
      | some k => match v.ev τ with
        | some v => match σ.get x with
          | some (.mp es) => if keyOk q k then
              match setK q k v es with
              | some es' => .ok undefV (σ.put x (.mp es'))
              | none => .bad
            else .bad
          | _ => .bad
        | none => .bad
      | none => .bad
    | _ => .bad
  | .call f args => match evL τ args with
    | some l => .call f l
    | none => .bad
  | .calld f args => match f.ev τ with
    | some (.fn g a b) => match evL τ args with
      | some l => .call g (a ++ l ++ b)
      | none => .bad
    | _ => .bad
  | .dfr f args => match f.ev τ with
    | some (.fn g a b) => match evL τ args with
      | some l => .dfr (g, a ++ l ++ b)
      | none => .bad
    | _ => .bad
  | .panic a => match a.ev τ with
    | some (.iface t v) => .pan (.iface t v)
    | _ => .bad
  | .recover => .recover

/- ---- regions ---- -/

def putD (n : Nat) (τ : Tr V) (d : Option Pos) (v : V) : Option (Tr V) :=
  match d with
  | none => some τ
  | some p => if p.toNat ≤ n then some (τ.set p v) else none

/-- is the operation wanted? -/
def guardV (τ : Tr V) : Option (Pos × Bool) → Option Bool
  | none => some true
  | some (p, want) => match τ.get p with
    | some (.bool b) => some (b == want)
    | some (.tup []) => some false
    | _ => none

abbrev CallF := Nat → List V → H → CR

def stepOp (cf : CallF) (n : Nat) (co : CO) (τ : Tr V) (σ : H) (d : List Df) : R :=
  match guardV τ co.gd with
  | none => .bad
  | some false => match putD n τ co.dst undefV with
    | some τ' => .nx τ' σ d
    | none => .bad
  | some true => match co.op with
    | .p o => match o.ev τ with
      | some v => match putD n τ co.dst v with
        | some τ' => .nx τ' σ d
        | none => .bad
      | none => .bad
    | .r o => match o.ev τ σ with
      | some v => match putD n τ co.dst v with
        | some τ' => .nx τ' σ d
        | none => .bad
      | none => .bad
    | .a o => match o.ev τ with
      | some (k, b) => match putD n τ co.dst (k.val σ.nx) with
        | some τ' => .nx τ' (σ.new b) d
        | none => .bad
      | none => .bad
    | .h o => match o.ev τ σ with
      | .bad => .bad
      | .ok v σ' => match putD n τ co.dst v with
        | some τ' => .nx τ' σ' d
        | none => .bad
      | .call f args => match cf f args σ with
        | .ret v σ' => match putD n τ co.dst v with
          | some τ' => .nx τ' σ' d
          | none => .bad
        | .pan v σ' => .pn v τ σ' d
        | .bad => .bad
      | .dfr x => match putD n τ co.dst undefV with
        | some τ' => .nx τ' σ (x :: d)
        | none => .bad
      | .pan v => .pn v τ σ d
      | .recover => .bad

def runOps (cf : CallF) (n : Nat) : List CO → Tr V → H → List Df → R
  | [], τ, σ, d => .nx τ σ d
  | o :: r, τ, σ, d => match stepOp cf n o τ σ d with
    | .nx τ' σ' d' => runOps cf n r τ' σ' d'
    | x => x

/- a region whose order is open: its operations in one chosen order -/

/-- what a reading operation looked at, and between which writers it may stand -/
structure Owe where
  x : Pos
  lo : Nat
  hi : Nat
  st : Option Nat

def oweOk (es : List H) : Owe → Bool
  | ⟨x, lo, hi, st⟩ => ((es.drop lo).take (hi + 1 - lo)).all fun σ => match σ.stamp x, st with
    | some a, some b => Nat.beq a b
    | _, _ => false

/-- es: the heaps ahead of each operation that acts, the last first; os: what has been read -/
def runDrw (cf : CallF) (n : Nat) : List DO → Tr V → H → List Df → List H → List Owe → R
  | [], τ, σ, d, es, os => if os.all (oweOk (σ :: es).reverse) then .nx τ σ d else .bad
  | o :: r, τ, σ, d, es, os =>
    match o.kind with
    | 1 => match stepOp cf n o.co τ σ d with
      | .nx τ' _ _ =>
        if o.lo = o.hi then runDrw cf n r τ' σ d es os else
        match guardV τ o.co.gd, o.co.op with
        | some false, _ => runDrw cf n r τ' σ d es os
        | _, .r op => match op.foot τ with
          | some (some x) => runDrw cf n r τ' σ d es (⟨x, o.lo, o.hi, σ.stamp x⟩ :: os)
          | some none => runDrw cf n r τ' σ d es os
          | none => .bad
        | _, _ => .bad
      | _ => .bad
    | 2 => match stepOp cf n o.co τ σ d with
      | .nx τ' σ' d' => runDrw cf n r τ' σ' d' (σ :: es) os
      | .pn v _ σ' d' => if o.tl && os.all (oweOk (σ :: es).reverse) then .pn v .lf σ' d' else .bad
      | _ => .bad
    | _ => match stepOp cf n o.co τ σ d with
      | .nx τ' σ' _ => runDrw cf n r τ' σ' d es os
      | _ => .bad

def goDrw (cf : CallF) (n : Nat) (ops : List DO) (τ : Tr V) (σ : H) (d : List Df) : R := runDrw cf n ops τ σ d [] []

/- ---- code ---- -/

def loopN (body : Tr V → H → List Df → R) : Nat → Tr V → H → List Df → R
  | 0, _, _, _ => .bad
  | m + 1, τ, σ, d => match body τ σ d with
    | .nx τ' σ' d' => loopN body m τ' σ' d'
    | r => r

def exec (cf : CallF) (lf n : Nat) : CC → Tr V → H → List Df → R
  | .skip, τ, σ, d => .nx τ σ d
  | .reg ops, τ, σ, d => runOps cf n ops τ σ d
  | .drw ops, τ, σ, d => goDrw cf n ops τ σ d
  | .seq a b, τ, σ, d => match exec cf lf n a τ σ d with
    | .nx τ' σ' d' => exec cf lf n b τ' σ' d'
    | r => r
  | .cond c a b, τ, σ, d => match c.ev τ with
    | some (.bool true) => exec cf lf n a τ σ d
    | some (.bool false) => exec cf lf n b τ σ d
    | _ => .bad
  | .blk id c, τ, σ, d => match exec cf lf n c τ σ d with
    | .ex i τ' σ' d' => if i = id then .nx τ' σ' d' else .ex i τ' σ' d'
    | r => r
  | .loop c, τ, σ, d => loopN (exec cf lf n c) lf τ σ d
  | .exit id, τ, σ, d => .ex id τ σ d
  | .ret, τ, σ, d => .rt τ σ d
  | .bad, _, _, _ => .bad

/- ---- calls ---- -/

def bindArgs : List V → Pos → Tr V → Tr V
  | [], _, τ => τ
  | v :: r, p, τ => bindArgs r p.succ (τ.set p v)

def resOne (τ : Tr V) (σ : H) : CRes → Option V
  | .t p => τ.get p
  | .cell p ag => match τ.get p with
    | some (.ptr x v o) => match blkCells σ x v with
      | some c => pick1 ag c o
      | none => none
    | _ => none
def resAll (τ : Tr V) (σ : H) : List CRes → Option (List V)
  | [] => some []
  | a :: l => match resOne τ σ a with
    | some v => match resAll τ σ l with
      | some vs => some (v :: vs)
      | none => none
    | none => none
def resV (τ : Tr V) (σ : H) (l : List CRes) : Option V :=
  match resAll τ σ l with
  | some [v] => some v
  | some vs => some (.tup vs)
  | none => none

def retOf (τ : Tr V) (σ : H) (l : List CRes) : CR :=
  match resV τ σ l with
  | some v => .ret v σ
  | none => .bad

/-- How a frame is being left: it returns; it panics, with this value. -/
inductive Lv where
  | ret
  | pan (v : V)

/- A deferred function's body, where 'recover' may stand: sequences, tests and regions at its top; all else as ever. 'l' is how the frame below is being left; true: recovered. -/
def stepS (cf : CallF) (n : Nat) (co : CO) (l : Lv) (rc : Bool) (τ : Tr V) (σ : H) (d : List Df) : R × Bool :=
  match co.op, guardV τ co.gd with
  | .h .recover, some true =>
    (match (match l, rc with
        | .pan v, false => putD n τ co.dst v
        | _, _ => putD n τ co.dst .nili) with
      | some τ' => .nx τ' σ d
      | none => .bad, true)
  | _, _ => (stepOp cf n co τ σ d, rc)
def runOpsS (cf : CallF) (n : Nat) (l : Lv) : List CO → Bool → Tr V → H → List Df → R × Bool
  | [], rc, τ, σ, d => (.nx τ σ d, rc)
  | o :: r, rc, τ, σ, d => match stepS cf n o l rc τ σ d with
    | (.nx τ' σ' d', rc') => runOpsS cf n l r rc' τ' σ' d'
    | x => x
def execS (cf : CallF) (lf n : Nat) (l : Lv) : CC → Bool → Tr V → H → List Df → R × Bool
  | .seq a b, rc, τ, σ, d => match execS cf lf n l a rc τ σ d with
    | (.nx τ' σ' d', rc') => execS cf lf n l b rc' τ' σ' d'
    | r => r
  | .cond c a b, rc, τ, σ, d => match c.ev τ with
    | some (.bool true) => execS cf lf n l a rc τ σ d
    | some (.bool false) => execS cf lf n l b rc τ σ d
    | _ => (.bad, rc)
  | .reg ops, rc, τ, σ, d => runOpsS cf n l ops rc τ σ d
  | c, rc, τ, σ, d => (exec cf lf n c τ σ d, rc)

def afterD (res : List CRes) (l : Lv) (rc : Bool) (τ : Tr V) (σ : H) : Option (Lv × H) :=
  match resV τ σ res with
  | some _ => match l, rc with
    | .pan _, true => some (.ret, σ)
    | l, _ => some (l, σ)
  | none => none

/-- A deferred call: the frame below is left as 'l'; how it is left behind the call, and the heap. -/
def callD (cf : CallF) (lf : Nat) (code : Nat → Option CFun) (x : Df) (l : Lv) (σ : H) : Option (Lv × H) :=
  match code x.1 with
  | some c => if x.2.length ≤ c.n then
      match execS cf lf c.n l c.body false (bindArgs x.2 .h .lf) σ [] with
      | (.nx τ σ' [], rc) => afterD c.res l rc τ σ'
      | (.rt τ σ' [], rc) => afterD c.res l rc τ σ'
      | _ => none
    else none
  | none => none

def leave (cf : CallF) (lf : Nat) (code : Nat → Option CFun) (τ : Tr V) (res : List CRes) : List Df → Lv → H → CR
  | [], .ret, σ => retOf τ σ res
  | [], .pan v, σ => .pan v σ
  | x :: r, l, σ => match callD cf lf code x l σ with
    | some (l', σ') => leave cf lf code τ res r l' σ'
    | none => .bad

/-- The end of a body. -/
def finish (cf : CallF) (lf : Nat) (code : Nat → Option CFun) (res : List CRes) : R → CR
  | .nx τ σ d => leave cf lf code τ res d .ret σ
  | .rt τ σ d => leave cf lf code τ res d .ret σ
  | .pn v τ σ d => leave cf lf code τ res d (.pan v) σ
  | _ => .bad

/-- The functions: those whose code is run, and those that are given otherwise. -/
structure Tab where
  code : Nat → Option CFun
  intr : Nat → Option (List V → H → CR)

def call (T : Tab) (lf : Nat) : Nat → CallF
  | 0, _, _, _ => .bad
  | m + 1, f, args, σ => match T.intr f with
    | some g => g args σ
    | none => match T.code f with
      | some c => if args.length ≤ c.n then
          finish (call T lf m) lf T.code c.res (exec (call T lf m) lf c.n c.body (bindArgs args .h .lf) σ [])
        else .bad
      | none => .bad

end Go.Proofs.YtahgfodccndcjaaGreatEng
