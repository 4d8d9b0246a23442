/- The engine, part 2: from the program's code to the engine's. -/
import Derived.Test.YtahgfodccndcjaaGreatEng1
namespace Go.Proofs.YtahgfodccndcjaaGreatEng
open Go

def ofVal1 : Value → Option V
  | .bool b => some (.bool b)
  | .int k n => some (.int k n)
  | .string s => some (.str (s.data.toList.map (·.toNat)))
  | .pointer none => some .nilp
  | .slice none 0 0 => some .nils
  | .map none => some .mapn
  | .nilFunc => some .nilf
  | .nilIface => some .nili
  | .func (.func f) a b => if a.isEmpty && b.isEmpty then some (.fn f [] []) else none
  | _ => none
def ofVals : List Value → Option (List V)
  | [] => some []
  | v :: r => match ofVal1 v with
    | some x => match ofVals r with
      | some l => some (x :: l)
      | none => none
    | none => none
def ofVal : Value → Option V
  | .agg cs => (ofVals cs.toList).map .agg
  | .tuple cs => (ofVals cs.toList).map .tup
  | v => ofVal1 v

section
variable (P : Program) (G : Nat → Option V)

def cArg : Operand → Option Arg
  | .tmp t => some (.t (Pos.ofNat t))
  | .const v => (ofVal v).map .k
  | .global g => (G g).map .k
  | .func f => some (.k (.fn f [] []))
def cArgs : List Operand → Option (List Arg)
  | [] => some []
  | x :: r => match cArg G x with
    | some a => match cArgs r with
      | some l => some (a :: l)
      | none => none
    | none => none
def cOpt : Option Operand → Option (Option Arg)
  | none => some none
  | some x => (cArg G x).map some

def szOf (t : TypeId) : Option Nat := (P.info? t).map (·.size)
def byOf (t : TypeId) : Option Nat := (P.info? t).map (·.bytes)
def aggOf (t : TypeId) : Option (Option Nat) :=
  match P.underlying t with
  | some (.struct _) | some (.array _ _) => (szOf P t).map some
  | some _ => some none
  | none => none
def zeroOf (t : TypeId) : Option V :=
  match P.info? t with
  | some i => match i.zero with
    | some v => ofVal v
    | none => none
  | none => none
def zcOf (t : TypeId) : Option (List V) := (zeroOf P t).map V.cells

/-- Structs of plain things, structs of these within. -/
def plainK? : TypeDesc → Option SK
  | .bool => some .bool
  | .int _ => some .int
  | .string => some .str
  | _ => none
mutual
def flatT : Nat → TypeId → Nat → Option (List (Nat × SK))
  | 0, _, _ => none
  | n + 1, t, off => match P.underlying t with
    | some (.struct fs) => if P.stoodInHeld t then none else match szOf P t with
      | some s => flatF n fs.toList off s
      | none => none
    | some d => (plainK? d).map fun k => [(off, k)]
    | none => none
def flatF : Nat → List Field → Nat → Nat → Option (List (Nat × SK))
  | 0, _, _, _ => none
  | _ + 1, [], _, _ => some []
  | n + 1, f :: r, off, s => if f.name = "_" then none else match szOf P f.type with
    | some sz => if 0 < sz ∧ f.offset + sz ≤ s then match flatT n f.type (off + f.offset) with
      | some l => match flatF n r off s with
        | some l' => some (l ++ l')
        | none => none
      | none => none
      else none
    | none => none
end
def scOf : TypeDesc → Option SK
  | .bool => some .bool
  | .int _ => some .int
  | .string => some .str
  | .pointer e => match szOf P e with
    | some (_ + 1) => some .ptr
    | _ => none
  | .slice _ => some .slice
  | .map _ _ => some .map
  | .func _ _ _ => some .func
  | .interface _ => some .ifc
  | _ => none
def eqStruct (t : TypeId) : EqT := match flatT P 40 t 0, szOf P t with
  | some l, some n => .flat n l
  | _, _ => .no
def eqOf (t : TypeId) : EqT :=
  match P.underlying t with
  | some (.struct _) => if P.eqGuardType P.depth t then .no else eqStruct P t
  | some d => match scOf P d with
    | some k => .sc k
    | none => .no
  | none => .no
/-- for keys of maps -/
def eqKey (t : TypeId) : EqT :=
  match P.underlying t with
  | some (.struct _) => eqStruct P t
  | some d => match plainK? d with
    | some k => .sc k
    | none => .no
  | none => .no

def isC : Operand → Bool
  | .const _ => true
  | _ => false

def cBin (op : BinOp) (t : TypeId) (x y : Operand) : Option POp :=
  match P.underlying t with
  | some (.interface ms) => if ms.isEmpty || isC x || isC y then
      match cArg G x, cArg G y with
      | some a, some b => some (.bin op (.sc .ifc) a b)
      | _, _ => none
    else none
  | _ => match cArg G x, cArg G y with
    | some a, some b => some (.bin op (eqOf P t) a b)
    | _, _ => none

def cParts (place : Nat → Option (Nat × Nat)) : List (Nat × Operand) → Option (List (Nat × Nat × Arg))
  | [] => some []
  | (i, x) :: r => match place i with
    | some (o, s) => match cArg G x with
      | some a => match cParts place r with
        | some l => some ((o, s, a) :: l)
        | none => none
      | none => none
    | none => none

def fieldPlaces : List Field → Option (List (Nat × Nat))
  | [] => some []
  | f :: r => match szOf P f.type with
    | some s => match fieldPlaces r with
      | some l => some ((f.offset, s) :: l)
      | none => none
    | none => none

def cBuiltin (b : Builtin) (argTypes : Array TypeId) (args : List Operand) : Option COp :=
  match b, args with
  | .len, [x] => match cArg G x, (argTypes[0]?).bind P.underlying with
    | some a, some .string => some (.p (.lenS a))
    | some a, some (.slice _) => some (.p (.lens a))
    | some _, some (.array n _) => some (.p (.lena n))
    | some a, some (.map _ _) => some (.r (.lenm a))
    | _, _ => none
  | .append, [x, y] => match argTypes[0]? with
    | some t => match P.underlying t with
      | some (.slice e) => match szOf P e, byOf P e, zcOf P e, cArg G x, cArg G y, (argTypes[1]?).bind P.underlying with
        | some s, some w, some z, some a, some b, some (.slice _) => if z.length = s then some (.h (.app e s w a b)) else none
        | some s, some w, some z, some a, some b, some .string => if z.length = s ∧ s = 1 then some (.h (.app e s w a b)) else none
        | _, _, _, _, _, _ => none
      | _ => none
    | none => none
  | .copy, [x, y] => match argTypes[0]? with
    | some t => match P.underlying t with
      | some (.slice e) => match szOf P e, cArg G x, cArg G y with
        | some s, some a, some b => some (.h (.copy s a b))
        | _, _, _ => none
      | _ => none
    | none => none
  | .cap, [x] => match cArg G x, (argTypes[0]?).bind P.underlying with
    | some a, some (.slice _) => some (.p (.caps a))
    | _, _ => none
  | .unsafeSliceData, [x] => (cArg G x).map fun a => .p (.sdata a)
  | .unsafeString, [x, y] => match (argTypes[0]?).bind P.underlying with
    | some (.pointer e) => match P.underlying e, cArg G x, cArg G y with
      | some (.int .u8), some a, some b => if P.cellsOf e = 1 ∧ argTypes.size = 2 then some (.h (.ustr e a b)) else none
      | _, _, _ => none
    | _ => none
  | .min, l => (cArgs G l).map fun l => .p (.mn l)
  | .max, l => (cArgs G l).map fun l => .p (.mx l)
  | .recover, [] => some (.h .recover)
  | _, _ => none

def cOp? (o : Oper) : Option COp := match o.op with
  | .move x | .assign x => (cArg G x).map fun a => .p (.mv a)
  | .pick c a b => match cArg G c, cArg G a, cArg G b with
    | some c, some a, some b => some (.p (.pick c a b))
    | _, _, _ => none
  | .alloc t => (zcOf P t).map fun z => .a (.alloc t z)
  | .box t x => match szOf P t, cArg G x with
    | some _, some a => some (.a (.box t a))
    | _, _ => none
  | .build t parts => match zcOf P t, P.underlying t with
    | some z, some (.struct fs) => match fieldPlaces P fs.toList with
      | some pl => (cParts G (fun i => pl[i]?) parts.toList).map fun l => .p (.build z l)
      | none => none
    | some z, some (.array _ e) => match szOf P e with
      | some s => (cParts G (fun i => some (i * s, s)) parts.toList).map fun l => .p (.build z l)
      | none => none
    | _, _ => none
  | .buildSlice t n parts => match P.underlying t with
    | some (.slice e) => match szOf P e, zcOf P e with
      | some s, some z => if n * s ≤ 2 ^ 24 ∧ z.length = s then (cParts G (fun i => some (i * s, s)) parts.toList).map fun l => .a (.bslice e n (repl z n) l) else none
      | _, _ => none
    | _ => none
  | .load t x => match aggOf P t, cArg G x with
    | some ag, some a => some (.r (.load ag a))
    | _, _ => none
  | .store t x y => match szOf P t, cArg G x, cArg G y with
    | some n, some a, some b => some (.h (.store n a b))
    | _, _, _ => none
  | .nilCheck x => (cArg G x).map fun a => .p (.nilck a)
  | .binOp op t x y _ => (cBin P G op t x y).map .p
  | .unOp op _ x => (cArg G x).map fun a => .p (.un op a)
  | .convert s d x => match cArg G x, P.underlying s, P.underlying d with
    | some a, some (.int _), some (.int k) => some (.p (.cii k a))
    | some a, some .string, some .string => some (.p (.css a))
    | some a, some (.int _), some .string => some (.p (.cis a))
    | some a, some (.pointer e), some .unsafePointer => match szOf P e with
      | some (_ + 1) => some (.r (.cpu a))
      | _ => none
    | some a, some .unsafePointer, some (.pointer e) => match szOf P e with
      | some sz => some (.r (.cup e sz a))
      | none => none
    | some a, some .string, some (.slice e) => match P.underlying e with
      | some (.int .u8) => if szOf P e = some 1 then some (.h (.s2b e a)) else none
      | _ => none
    | some a, some (.slice e), some .string => match P.underlying e with
      | some (.int .u8) => some (.r (.b2s a))
      | _ => none
    | _, _, _ => none
  | .makeInterface t x => match P.underlying t, cArg G x with
    | some (.interface _), _ => none
    | some _, some a => some (.p (.mkif t a))
    | _, _ => none
  | .makeFunc (.func f) a b => match cArgs G a.toList, cArgs G b.toList with
    | some x, some y => some (.p (.mkfn f x y))
    | _, _ => none
  | .makeMap _ none => some (.a .mkmap)
  | .makeSlice t l c => match P.underlying t with
    | some (.slice e) => match szOf P e, byOf P e, zcOf P e, cArg G l, cArg G c with
      | some s, some w, some z, some a, some b => if z.length = s then some (.a (.mksl e w z a b)) else none
      | _, _, _, _, _ => none
    | _ => none
  | .slice t x lo hi mx => match cArg G x, cOpt G lo, cOpt G hi, cOpt G mx, P.underlying t with
    | some a, some lo, some hi, some none, some .string => some (.p (.slis a lo hi))
    | some a, some lo, some hi, some mx, some (.slice e) => (szOf P e).map fun s => .p (.slsl s a lo hi mx)
    | some a, some lo, some hi, some mx, some (.array n e) => (szOf P e).map fun s => .p (.slar n s a lo hi mx)
    | some a, some lo, some hi, some mx, some (.pointer arr) => match P.underlying arr with
      | some (.array n e) => (szOf P e).map fun s => .p (.slar n s a lo hi mx)
      | _ => none
    | _, _, _, _, _ => none
  | .fieldAddr s x f => match P.underlying s, cArg G x with
    | some (.struct fs), some a => match fs[f]? with
      | some fd => match szOf P fd.type with
        | some (_ + 1) => some (.p (.faddr fd.offset a))
        | _ => none
      | none => none
    | _, _ => none
  | .field t x f => match P.underlying t, cArg G x with
    | some (.struct fs), some a => match fs[f]? with
      | some fd => (aggOf P fd.type).map fun ag => .p (.field ag fd.offset a)
      | none => none
    | _, _ => none
  | .indexAddr t x i => match P.underlying t, cArg G x, cArg G i with
    | some (.slice e), some a, some b => (szOf P e).map fun s => .p (.iaddr s a b)
    | some (.array n e), some a, some b => (szOf P e).map fun s => .p (.iarr n s a b)
    | _, _, _ => none
  | .index t x i => match P.underlying t, cArg G x, cArg G i with
    | some .string, some a, some b => some (.p (.idxs a b))
    | some (.array n e), some a, some b => match szOf P e, aggOf P e with
      | some s, some ag => some (.p (.idxa n s ag.isSome a b))
      | _, _ => none
    | _, _, _ => none
  | .lookup t x i ok => match P.underlying t, cArg G x, cArg G i with
    | some (.map k e), some a, some b => (zeroOf P e).map fun z => .r (.lookup z ok (eqKey P k) a b)
    | _, _, _ => none
  | .mapUpdate t m k v | .insert t m k v => match P.underlying t, cArg G m, cArg G k, cArg G v with
    | some (.map kt _), some a, some b, some c => some (.h (.mupd (eqKey P kt) a b c))
    | _, _, _, _ => none
  | .range t x => match P.underlying t, cArg G x with
    | some .string, some a => some (.a (.range a))
    | _, _ => none
  | .next x s => if s then (cArg G x).map fun a => .h (.next a) else none
  | .typeAssert x _ t ok => match P.underlying t, cArg G x, zeroOf P t with
    | some (.interface _), _, _ => none
    | some _, some a, some z => some (.p (.tass t ok z a))
    | _, _, _ => none
  | .extract x i => (cArg G x).map fun a => .p (.extract i a)
  | .call c => match c.callee with
    | .value (.func f) => (cArgs G c.args.toList).map fun l => .h (.call f l)
    | .value x => match cArg G x, cArgs G c.args.toList with
      | some a, some l => some (.h (.calld a l))
      | _, _ => none
    | .builtin b => cBuiltin P G b c.argTypes c.args.toList
    | _ => none
  | .defer c => match c.callee with
    | .value x => match cArg G x, cArgs G c.args.toList with
      | some a, some l => some (.h (.dfr a l))
      | _, _ => none
    | _ => none
  | .panic x => (cArg G x).map fun a => .h (.panic a)
  | _ => none
def cOp (o : Oper) : COp := match cOp? P G o with
  | some c => c
  | none => .p .bad

def cGuard (ops : Array Oper) : Option (Nat × Bool) → Option (Option (Pos × Bool))
  | none => some none
  | some (j, b) => match (ops[j]?).bind (·.dst) with
    | some d => some (some (Pos.ofNat d, b))
    | none => none

def cOper (ops : Array Oper) (o : Oper) : CO :=
  match cGuard ops o.guard with
  | some g => { dst := o.dst.map Pos.ofNat, op := cOp P G o, gd := g }
  | none => { dst := none, op := .p .bad, gd := none }

/-- what an operation is in a region whose order is open -/
def clsOf : COp → Nat
  | .p _ => 0
  | .r _ => 1
  | .a _ => 3
  | .h _ => 2

def looks (ops : Array Oper) (o : Oper) : List Nat :=
  (o.op.operands.toList.filterMap fun | .tmp t => some t | _ => none) ++
  (match o.guard with
   | some (g, _) => ((ops[g]?).bind (·.dst)).toList
   | none => [])

/-- i stands ahead of j by the edges (closed). -/
def bef (B : List Nat) (i j : Nat) : Bool := (B.getD j 0).testBit i

def drwOps (B : List Nat) (cs : List CO) : List DO :=
  let js := List.range cs.length
  let ks := cs.map fun c => clsOf c.op
  let hs := js.filter fun j => ks.getD j 0 == 2
  let ds := js.filterMap fun j => match cs[j]? with
    | some c => some { co := c, at_ := j, kind := ks.getD j 0, lo := (hs.filter fun h => bef B h j).length, hi := (hs.filter fun h => !bef B j h).length,
                       tl := js.all fun i => i ≤ j || bef B j i : DO }
    | none => none
  (List.range (hs.length + 1)).flatMap fun e => (ds.filter fun d => d.lo == e && d.kind != 2) ++ (ds.filter fun d => d.lo == e && d.kind == 2)

/-- of what acts behind it, all from the number hi on waits for it -/
def hiOk (B : List Nat) (j hi : Nat) : Nat → List DO → Bool
  | _, [] => true
  | k, x :: r => (x.kind != 2 || Nat.blt k hi || bef B j x.at_) && hiOk B j hi (if x.kind == 2 then k + 1 else k) r

/-- The order: nothing waits for what stands behind it; all waits for the last that acts ahead of it; the numbers lo, hi are right. -/
def ordOk (B : List Nat) : Nat → Option Nat → List DO → Bool
  | _, _, [] => true
  | q, last, d :: r =>
    Nat.beq d.lo q && Nat.ble d.lo d.hi && !bef B d.at_ d.at_ && (match last with | some h => bef B h d.at_ | none => true) &&
    (r.all fun x => !bef B x.at_ d.at_ && !(Nat.beq d.at_ x.at_) && (d.kind != 2 || !d.tl || bef B d.at_ x.at_)) &&
    hiOk B d.at_ d.hi (if d.kind == 2 then q + 1 else q) r &&
    ordOk B (if d.kind == 2 then q + 1 else q) (if d.kind == 2 then some d.at_ else last) r

/-- The chosen order fits: B is what the edges say; what is written is written once, and read on one side of it. -/
def drwOk (ops : Array Oper) (B : List Nat) (ds : List DO) : Bool :=
  let n := ops.size
  let os := ops.toList
  let js := List.range n
  ds.length == n && (js.all fun j => ds.any fun d => d.at_ == j) && ordOk B 0 none ds &&
  (js.all fun j => match os[j]? with
    | some oj =>
      (oj.after.all fun e => !Region.binds .any e || (decide (e.on < n) && bef B e.on j)) &&
      (js.all fun i => !bef B i j || (oj.after.any fun e => Region.binds .any e && (e.on == i || bef B i e.on))) &&
      js.all fun i => i == j || match os[i]? with
        | some oi =>
          (match oi.dst, oj.dst with | some a, some b => a != b | _, _ => true) &&
          (match oi.dst with | some a => !(looks ops oj).contains a || bef B i j || bef B j i | none => true)
        | none => false
    | none => false)

def cCode : Code → CC
  | .skip => .skip
  | .region _ ops draw =>
    if draw then
      let B := (Region.before ops).toList
      let cs := ops.toList.map (cOper P G ops)
      let ds := drwOps B cs
      if drwOk ops B ds then .drw ds else .bad
    else .reg (ops.toList.map (cOper P G ops))
  | .seq a b => .seq (cCode a) (cCode b)
  | .cond c a b => match cArg G c with
    | some c => .cond c (cCode a) (cCode b)
    | none => .bad
  | .block id c => .blk id (cCode c)
  | .loop c => .loop (cCode c)
  | .exit id => .exit id
  | .ret => .ret
  | .label _ => .skip
  | .scope c => cCode c
  | _ => .bad

def cRes : List ResultVar → Option (List CRes)
  | [] => some []
  | .tmp t :: r => (cRes r).map (.t (Pos.ofNat t) :: ·)
  | .cell a t :: r => match aggOf P t with
    | some ag => (cRes r).map (.cell (Pos.ofNat a) ag :: ·)
    | none => none

def cFunc (fn : Func) : Option CFun :=
  if fn.name == "runtime.NumGoroutine" then none else
  match fn.body, cRes P fn.results.toList with
  | some c, some res => some { n := fn.ntmps, res, body := cCode P G c }
  | _, _ => none

def codeOf (f : Nat) : Option CFun := match P.funcs[f]? with
  | some fn => cFunc P G fn
  | none => none
end

end Go.Proofs.YtahgfodccndcjaaGreatEng
