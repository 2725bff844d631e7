/- Texts of this proof, gathered. What each part says stands at its head; conditions: none but those that its theorems name. -/
import GoSem.Dispatch
import GoSem.Machine.Return
import GoSem.Core.Region
import Derived.Laws.Cells
import Derived.Laws.IdiomCopy
import Derived.Calls
import Derived.Below
import Derived.Laws.Strings
import Derived.Laws.Concat
import Derived.Laws.BytesString
import Derived.Laws.Append
/- A deterministic evaluator of the model's code over an abstract heap (definitions). -/
section
set_option linter.all false
namespace Go.AE

/-- A trie of numbers. -/
inductive Tr (α : Type) where
  | leaf
  | node (l : Tr α) (v : Option α) (r : Tr α)

def Tr.get {α : Type} : Tr α → Nat → Option α
  | .leaf, _ => none
  | .node l v r, n => match n.beq 0 with
    | true => v
    | false => match (n % 2).beq 1 with
      | true => l.get (n / 2)
      | false => r.get (n / 2 - 1)

def Tr.putF {α : Type} : Nat → Tr α → Nat → Option α → Tr α
  | 0, t, _, _ => t
  | k + 1, .leaf, n, x => match n.beq 0 with
    | true => .node .leaf x .leaf
    | false => match (n % 2).beq 1 with
      | true => .node (putF k .leaf (n / 2) x) none .leaf
      | false => .node .leaf none (putF k .leaf (n / 2 - 1) x)
  | k + 1, .node l v r, n, x => match n.beq 0 with
    | true => .node l x r
    | false => match (n % 2).beq 1 with
      | true => .node (putF k l (n / 2) x) v r
      | false => .node l v (putF k r (n / 2 - 1) x)

def Tr.put {α : Type} (t : Tr α) (n : Nat) (x : Option α) : Tr α := Tr.putF (n + 1) t n x

def Tr.ofList {α : Type} : List α → Nat → Tr α → Tr α
  | [], _, t => t
  | x :: xs, n, t => ofList xs (n + 1) (t.put n (some x))

inductive AObj where
  /-- n cells; grown: born by an append (its true capacity is not known); ro: read only. -/
  | cells (n : Nat) (c : Tr Value) (elem : TypeId) (grown ro : Bool)
  | map (es : List MapEntry) (clock : Nat) (ro : Bool)
  | strIter (s : ByteArray) (pos : Nat)
  | mapIter (m : Option Nat) (since : Nat) (seen : List Nat) (stepped : Nat)
  deriving Inhabited

structure AHeap where
  next : Nat
  m : Tr AObj

structure AFr where
  n : Nat
  t : Tr Value

def AFr.at_ (fr : AFr) (t : Nat) : Value := (fr.t.get t).getD undef
def AFr.put (fr : AFr) (dst : Option Tmp) (v : Value) : AFr :=
  match dst with
  | none => fr
  | some d => match d.blt fr.n with
    | true => { fr with t := fr.t.put d (some v) }
    | false => fr
def AFr.eval (fr : AFr) : Operand → Value
  | .tmp t => fr.at_ t
  | .const v => v
  | .global g => .pointer (some ⟨g, 0, none⟩)
  | .func f => .func (.func f) #[] #[]

def AHeap.get (σ : AHeap) (b : Nat) : Option AObj := σ.m.get b
def AHeap.set (σ : AHeap) (b : Nat) (o : AObj) : AHeap := { σ with m := σ.m.put b (some o) }
def AHeap.drop (σ : AHeap) (b : Nat) : AHeap := { σ with m := σ.m.put b none }
def AHeap.new (σ : AHeap) (o : AObj) : Nat × AHeap := (σ.next, { next := σ.next + 1, m := σ.m.put σ.next (some o) })

/-- No address inside. -/
def plainF : Nat → Value → Bool
  | 0, _ => false
  | n + 1, v => match v with
    | .bool _ | .int .. | .float .. | .complex .. | .string _ | .pointer none | .slice none _ _ | .map none | .nilFunc | .nilIface => true
    | .iface _ v => plainF n v
    | .agg cs => cs.toList.all (plainF n)
    | .tuple cs => cs.toList.all (plainF n)
    | .func _ a b => a.toList.all (plainF n) && b.toList.all (plainF n)
    | _ => false
def plain (v : Value) : Bool := plainF 6 v

/-- Values without parts and without an address. -/
def atom : Value → Bool
  | .bool _ | .int .. | .float .. | .complex .. | .string _ | .pointer none | .slice none _ _ | .map none | .nilFunc | .nilIface => true
  | _ => false
def atomic : Option Value → Option Value
  | some v => match atom v with
    | true => some v
    | false => none
  | none => none

/-- A computation that asks the program alone. -/
def pureP {α : Type} (P : Program) : Sem α → Option α
  | .pure a => some a
  | .program k => pureP P (k P)
  | _ => none

def zeroOf (P : Program) (t : TypeId) : Option Value := match P.info? t with
  | some i => match i.zero with
    | some z => match plain z with
      | true => some z
      | false => none
    | none => none
  | none => none
def sizeOf' (P : Program) (t : TypeId) : Option Nat := (P.info? t).map (·.size)
def isAgg' (P : Program) (t : TypeId) : Option Bool := match P.underlying t with
  | some (.struct _) | some (.array _ _) => some true
  | some _ => some false
  | none => none

/-- One cell. -/
def ld (σ : AHeap) (b off : Nat) : Option Value := match σ.get b with
  | some (.cells _ c _ _ _) => c.get off
  | _ => none
def ldN (c : Tr Value) (off : Nat) : Nat → Option (List Value)
  | 0 => some []
  | n + 1 => match c.get off with
    | none => none
    | some v => match ldN c (off + 1) n with
      | none => none
      | some vs => some (v :: vs)
def ldCells (σ : AHeap) (b off n : Nat) : Option (List Value) := match n with
  | 0 => some []
  | n => match σ.get b with
    | some (.cells _ c _ _ _) => ldN c off n
    | _ => none
def ldVar (P : Program) (t : TypeId) (σ : AHeap) (b off : Nat) : Option Value := match isAgg' P t with
  | some true => match sizeOf' P t with
    | some n => (ldCells σ b off n).map fun vs => .agg vs.toArray
    | none => none
  | some false => ld σ b off
  | none => none

def single : Value → Bool
  | .agg _ | .tuple _ => false
  | _ => true
/-- Cells stored into a row. -/
def stN (c : Tr Value) (off : Nat) : List Value → Option (Tr Value)
  | [] => some c
  | v :: vs => match single v with
    | false => none
    | true => match c.get off with
      | none => none
      | some _ => stN (c.put off (some v)) (off + 1) vs
def stCells (σ : AHeap) (b off : Nat) (vs : List Value) : Option AHeap := match vs with
  | [] => some σ
  | vs => match σ.get b with
    | some (.cells n c e g false) => match stN c off vs with
      | some c' => some (σ.set b (.cells n c' e g false))
      | none => none
    | _ => none
def newCells (σ : AHeap) (elem : TypeId) (vs : List Value) (grown : Bool := false) : Nat × AHeap :=
  σ.new (.cells vs.length (Tr.ofList vs 0 .leaf) elem grown false)

def ptr (b off : Nat) : Value := .pointer (some ⟨b, off, none⟩)

/-- A part of cells. -/
def part' (P : Program) (t : TypeId) (cs : Array Value) (off : Nat) : Option Value := match isAgg' P t with
  | some true => (sizeOf' P t).map fun n => .agg (cs.extract off (off + n))
  | some false => cs[off]?
  | none => none

def fill' (place : Nat → Option (Nat × Nat)) (cells : List Value) : List (Nat × Value) → Option (List Value)
  | [] => some cells
  | (i, v) :: rest => match place i with
    | none => none
    | some (off, size) => match (v.cells.size.beq size) && (off + v.cells.size).ble cells.length with
      | false => none
      | true => fill' place (cells.take off ++ v.cells.toList ++ cells.drop (off + v.cells.size)) rest

def places (P : Program) : List Field → Option (List (Nat × Nat))
  | [] => some []
  | f :: fs => match sizeOf' P f.type, places P fs with
    | some n, some ps => some ((f.offset, n) :: ps)
    | _, _ => none
def build' (P : Program) (t : TypeId) (parts : List (Nat × Value)) : Option Value := match zeroOf P t, P.underlying t with
  | some z, some (.struct fields) => match places P fields.toList with
    | some ps => (fill' (fun i => ps[i]?) z.cells.toList parts).map fun cs => .agg cs.toArray
    | none => none
  | some z, some (.array _ elem) => match sizeOf' P elem with
    | some size => (fill' (fun i => some (i * size, size)) z.cells.toList parts).map fun cs => .agg cs.toArray
    | none => none
  | _, _ => none

def zerosN (z : List Value) : Nat → List Value
  | 0 => []
  | n + 1 => z ++ zerosN z n

def natOf : Value → Option Nat
  | .int _ (.ofNat n) => some n
  | _ => none

/-- Equality of what has no address inside, or of pointers that one side knows to be nil. -/
def eqV (P : Program) (t : TypeId) (x y : Value) : Option Bool := match x, y with
  | .pointer none, .pointer b => if (P.underlying t) matches some (.pointer _) then some b.isNone else none
  | .pointer (some _), .pointer none => if (P.underlying t) matches some (.pointer _) then some false else none
  | .slice none _ _, .slice b _ _ => if (P.underlying t) matches some (.slice _) then some b.isNone else none
  | .slice (some _) _ _, .slice none _ _ => if (P.underlying t) matches some (.slice _) then some false else none
  | .map none, .map b => if (P.underlying t) matches some (.map ..) then some b.isNone else none
  | .map (some _), .map none => if (P.underlying t) matches some (.map ..) then some false else none
  | .func .., .nilFunc => if (P.underlying t) matches some (.func ..) then some false else none
  | .nilFunc, .func .. => if (P.underlying t) matches some (.func ..) then some false else none
  | .nilIface, .iface .. => if (P.underlying t) matches some (.interface _) then some false else none
  | .iface .., .nilIface => if (P.underlying t) matches some (.interface _) then some false else none
  | x, y => if plain x && plain y then pureP P (Op.equal t x y) else none

/-- Words of letters compared (the model's own goes byte by byte over lists). -/
def strOp (op : BinOp) (x y : ByteArray) : Option Value :=
  let a := x.data.toList
  let b := y.data.toList
  match op with
  | .add => if ((x.size + y.size : Nat) : Int) > IntKind.i64.max then none else some (.string (ByteArray.mk (a ++ b).toArray))
  | .eql => some (.bool (a == b))
  | .neq => some (.bool !(a == b))
  | .lss => some (.bool (Op.bytesLess a b))
  | .leq => some (.bool (Op.bytesLess a b || a == b))
  | .gtr => some (.bool !(Op.bytesLess a b || a == b))
  | .geq => some (.bool !(Op.bytesLess a b))
  | _ => none

def isEq : BinOp → Bool
  | .eql | .neq => true
  | _ => false

def bin (P : Program) (op : BinOp) (t : TypeId) (x y : Operand) (a b : Value) : Option Value := match a, b with
  | .string s, .string u => strOp op s u
  | .int .., .int .. => atomic (pureP P (Go.binOp op t a b))
  | .float .., .float .. => atomic (pureP P (Go.binOp op t a b))
  | .complex .., .complex .. => none
  | a, b => match isEq op with
    | false => none
    | true =>
      let guard : Bool := match a, b with
        | .nilIface, .nilIface => (x matches .const _) || (y matches .const _)
        | .agg _, .agg _ => !P.eqGuardType P.depth t
        | _, _ => true
      match guard with
      | false => none
      | true => (eqV P t a b).map fun r => .bool (match op with | .eql => r | _ => !r)

def bytesOf : List Value → Option (List UInt8)
  | [] => some []
  | .int .u8 n :: vs => (bytesOf vs).map (UInt8.ofNat n.toNat :: ·)
  | _ => none

def lenOf' : Value → Option Nat
  | .slice _ n _ => some n
  | .string s => some s.size
  | _ => none
def firstCells' (size n : Nat) (σ : AHeap) : Value → Option (List Value)
  | .slice (some a) _ _ => ldCells σ a.block a.off (n * size)
  | .slice none _ _ => some []
  | .string s => some ((s.data.toList.take n).map fun b => .int .u8 b.toNat)
  | _ => none

def conv (P : Program) (src dst : TypeId) (x : Value) (σ : AHeap) : Option (Value × AHeap) := match P.underlying src, P.underlying dst with
  | some s, some d => match x with
    | .int .. => (atomic (pureP P (Go.convert src dst x))).map (·, σ)
    | .float .. => (atomic (pureP P (Go.convert src dst x))).map (·, σ)
    | .string u => match d with
      | .string => some (.string u, σ)
      | .slice e => match P.underlying e, sizeOf' P e with
        | some (.int .u8), some 1 =>
          let (b, σ) := newCells σ e (u.data.toList.map fun b => Value.int .u8 b.toNat) true
          some (.slice (some ⟨b, 0, none⟩) u.size u.size, σ)
        | _, _ => none
      | _ => none
    | .slice a n c => match s, d with
      | .slice _, .slice e => match a with
        | none => none
        | some a => match a.spot with
          | some _ => none
          | none => match src.beq dst && Nat.blt 0 c, P.underlying e, σ.get a.block with
            | true, some (.int .u8), some (.cells k cs e' g false) => some (.slice (some a) n c, σ.set a.block (.cells k cs e' g false))
            | _, _, _ => none
      | .slice e, .string => match P.underlying e with
        | some (.int .u8) => match firstCells' 1 n σ (.slice a n c) with
          | some vs => match bytesOf vs with
            | some bs => some (.string ⟨bs.toArray⟩, σ)
            | none => none
          | none => none
        | _ => none
      | _, _ => none
    | _ => none
  | _, _ => none

def ubound (v : Value) (y : Nat) : Option Nat := match natOf v with
  | some n => match n.ble y with
    | true => some n
    | false => none
  | none => none
def lowB (low : Option Value) (h m : Nat) : Option (Nat × Nat × Nat) := match low with
  | none => some (0, h, m)
  | some v => match ubound v h with
    | some l => some (l, h, m)
    | none => none
/-- The bounds of a slicing: low, high, the new capacity's end. -/
def bounds (len cap : Nat) (low high max : Option Value) : Option (Nat × Nat × Nat) := match max, high with
  | none, none => lowB low len cap
  | none, some v => match ubound v cap with
    | some h => lowB low h cap
    | none => none
  | some u, some v => match ubound u cap with
    | some m => match ubound v m with
      | some h => lowB low h m
      | none => none
    | none => none
  | some _, none => none

/-- The mark of an empty slice whose true capacity is 0. -/
def exactEmpty (a : Addr) : Value := .slice (some { a with spot := some 0 }) 0 0

/-- A slice's own slicing, its row known. -/
def sliceRow (size l h m : Nat) (told g : Bool) (a : Addr) : Value :=
  match m.beq l with
  | false => .slice (some (a.add (l * size))) (h - l) (m - l)
  | true => match told || !g with
    | true => exactEmpty a
    | false => .slice (some (a.add (l * size))) 0 0
def sliceArr (size l h m : Nat) (a : Addr) : Value :=
  match m.beq l with
  | false => .slice (some (a.add (l * size))) (h - l) (m - l)
  | true => exactEmpty a
def sliceOp (P : Program) (t : TypeId) (x : Value) (low high max : Option Value) (σ : AHeap) : Option Value := match P.underlying t with
  | some .string => match x, max with
    | .string s, none => match bounds s.size s.size low high none with
      | some (l, h, _) => some (.string ⟨((s.data.toList.take h).drop l).toArray⟩)
      | none => none
    | _, _ => none
  | some (.slice elem) => match x, sizeOf' P elem with
    | .slice a len cap, some size => match len.ble cap, bounds len cap low high max with
      | true, some (l, h, m) => match a with
        | none => some (.slice none (h - l) (m - l))
        | some a => match a.spot with
          | some _ => some (exactEmpty a)
          | none => match σ.get a.block with
            | some (.cells _ _ e g _) => match !g || e.beq elem with
              | true => some (sliceRow size l h m max.isSome g a)
              | false => none
            | _ => none
      | _, _ => none
    | _, _ => none
  | some (.array n elem) => match x, sizeOf' P elem with
    | .pointer (some a), some size => match bounds n n low high max with
      | some (l, h, m) => some (sliceArr size l h m a)
      | none => none
    | _, _ => none
  | some (.pointer arr) => match P.underlying arr with
    | some (.array n elem) => match x, sizeOf' P elem with
      | .pointer (some a), some size => match bounds n n low high max with
        | some (l, h, m) => some (sliceArr size l h m a)
        | none => none
      | _, _ => none
    | _ => none
  | _ => none

def idx (v : Value) (len : Nat) : Option Nat := (natOf v).bind fun n => if n < len then some n else none

def indexAddr (P : Program) (t : TypeId) (x ix : Value) : Option Value := match P.underlying t, x with
  | some (.array len elem), .pointer (some a) => match sizeOf' P elem, idx ix len with
    | some s, some i => some (.pointer (some (a.add (i * s))))
    | _, _ => none
  | some (.slice elem), .slice (some a) len _ => match a.spot, sizeOf' P elem, idx ix len with
    | none, some s, some i => some (.pointer (some (a.add (i * s))))
    | _, _, _ => none
  | _, _ => none
def indexVal (P : Program) (t : TypeId) (x ix : Value) : Option Value := match P.underlying t, x with
  | some (.array len elem), .agg cs => match sizeOf' P elem, idx ix len with
    | some s, some i => part' P elem cs (i * s)
    | _, _ => none
  | some .string, .string s => (idx ix s.size).bind fun i => (s.data.toList[i]?).map fun b => .int .u8 b.toNat
  | _, _ => none
def fieldAddr (P : Program) (s : TypeId) (x : Value) (i : Nat) : Option Value := match P.underlying s, x with
  | some (.struct fields), .pointer (some a) => match fields[i]? with
    | some f => match sizeOf' P f.type with
      | some (_ + 1) => some (.pointer (some (a.add f.offset)))
      | _ => none
    | none => none
  | _, _ => none
def fieldVal (P : Program) (t : TypeId) (x : Value) (i : Nat) : Option Value := match P.underlying t, x with
  | some (.struct fields), .agg cs => (fields[i]?).bind fun f => part' P f.type cs f.offset
  | _, _ => none

/-- Keys: plain ones alone. -/
def keyEq (P : Program) (kt : TypeId) (str : Bool) (k e : Value) : Option Bool := match str with
  | true => match k, e with
    | .string a, .string b => some (a.data.toList == b.data.toList)
    | _, _ => none
  | false => match plain k && plain e with
    | true => pureP P (Op.equal kt k e)
    | false => none
def findKey' (P : Program) (kt : TypeId) (str : Bool) (k : Value) : List MapEntry → Nat → Option (Option (Nat × MapEntry))
  | [], _ => some none
  | e :: es, i => match keyEq P kt str k e.key with
    | some true => some (some (i, e))
    | some false => findKey' P kt str k es (i + 1)
    | none => none
def isStr (P : Program) (kt : TypeId) : Bool := match P.underlying kt with
  | some .string => true
  | _ => false
def easyKey (P : Program) (kt : TypeId) : Bool := match P.underlying kt with
  | some .string => true
  | some (.int _) => true
  | some .bool => true
  | _ => false
def keyOk (P : Program) (kt : TypeId) (k : Value) : Bool := plain k && (easyKey P kt || ((match pureP P (Instr.checkKey false 10000 kt k) with | some _ => true | none => false) && (match pureP P (Instr.checkKey true 10000 kt k) with | some _ => true | none => false)))
def entriesOf (x : Value) (σ : AHeap) : Option (List MapEntry) := match x with
  | .map none => some []
  | .map (some r) => match σ.get r with
    | some (.map es _ _) => some es
    | _ => none
  | _ => none
def lookup' (P : Program) (t : TypeId) (x k : Value) (ok : Bool) (σ : AHeap) : Option Value := match P.underlying t with
  | some (.map kt et) => match keyOk P kt k, entriesOf x σ with
    | true, some es => match findKey' P kt (isStr P kt) k es 0 with
      | some (some (_, e)) => some (if ok then .tuple #[e.val, .bool true] else e.val)
      | some none => match zeroOf P et with
        | some z => some (if ok then .tuple #[z, .bool false] else z)
        | none => none
      | none => none
    | _, _ => none
  | _ => none
/-- The entry at a key, if it may be written. -/
def findW (P : Program) (kt : TypeId) (k : Value) (r : Nat) (σ : AHeap) : Option (List MapEntry × Nat × Option (Nat × MapEntry)) := match keyOk P kt k, σ.get r with
  | true, some (.map es clock false) => match findKey' P kt (isStr P kt) k es 0 with
    | some (some (i, e)) => match plain e.key && Instr.sameBits 10000 e.key k with
      | true => some (es, clock, some (i, e))
      | false => none
    | some none => some (es, clock, none)
    | none => none
  | _, _ => none
def mapPut (P : Program) (t : TypeId) (x k v : Value) (σ : AHeap) : Option AHeap := match P.underlying t, x with
  | some (.map kt _), .map (some r) => match findW P kt k r σ with
    | some (es, clock, some (i, _)) => some (σ.set r (.map (es.modify i fun e => { e with key := k, val := v }) clock false))
    | some (es, clock, none) => some (σ.set r (.map (es ++ [{ key := k, val := v, born := clock }]) (clock + 1) false))
    | none => none
  | _, _ => none
def mapEntry' (P : Program) (t : TypeId) (x k : Value) (σ : AHeap) : Option (Value × AHeap) := match P.underlying t, x with
  | some (.map kt et), .map (some r) => match findW P kt k r σ with
    | some (es, clock, some (i, e)) => some (.tuple #[e.val, goInt e.born], σ.set r (.map (es.modify i fun e => { e with key := k }) clock false))
    | some (es, clock, none) => match zeroOf P et with
      | some z => some (.tuple #[z, goInt clock], σ.set r (.map (es ++ [{ key := k, val := z, born := clock }]) (clock + 1) false))
      | none => none
    | none => none
  | _, _ => none
def bornIdx : List MapEntry → Nat → Nat → Option Nat
  | [], _, _ => none
  | e :: es, b, i => match e.born.beq b with
    | true => some i
    | false => bornIdx es b (i + 1)
def entryStore' (x s v : Value) (σ : AHeap) : Option AHeap := match x, natOf s with
  | .map (some r), some born => match σ.get r with
    | some (.map es clock false) => match bornIdx es born 0 with
      | some i => some (σ.set r (.map (es.modify i fun e => { e with val := v }) clock false))
      | none => none
    | _ => none
  | _, _ => none
def mapDel (P : Program) (t : TypeId) (x k : Value) (σ : AHeap) : Option AHeap := match P.underlying t with
  | some (.map kt _) => match x with
    | .map none => match keyOk P kt k with
      | true => some σ
      | false => none
    | .map (some r) => match keyOk P kt k, σ.get r with
      | true, some (.map es clock false) => match findKey' P kt (isStr P kt) k es 0 with
        | some (some (i, _)) => some (σ.set r (.map (es.eraseIdx i) clock false))
        | some none => some (σ.set r (.map es clock false))
        | none => none
      | _, _ => none
    | _ => none
  | _ => none

def range' (P : Program) (t : TypeId) (x : Value) (σ : AHeap) : Option (Value × AHeap) := match P.underlying t, x with
  | some .string, .string s => let (b, σ) := σ.new (.strIter s 0); some (ptr b 0, σ)
  | some (.map ..), .map none => let (b, σ) := σ.new (.mapIter none 0 [] 0); some (ptr b 0, σ)
  | some (.map ..), .map (some m) => match σ.get m with
    | some (.map _ clock _) => let (b, σ) := σ.new (.mapIter (some m) clock [] clock); some (ptr b 0, σ)
    | _ => none
  | _, _ => none
def nextMap (r m since : Nat) (seen : List Nat) (last : Nat) (es : List MapEntry) (clock : Nat) (σ : AHeap) : Option (Value × AHeap) :=
  match !seen.isEmpty && !es.isEmpty && es.all (fun e => decide (e.born ≥ last)) with
  | true => none
  | false =>
    match (es.filter fun e => !seen.contains e.born).filter (fun e => decide (e.born < since)), (es.filter fun e => !seen.contains e.born).filter (fun e => decide (e.born ≥ since)) with
    | [], [] => some (.tuple #[.bool false], σ)
    | [e], [] => some (.tuple #[.bool true, e.key, e.val], σ.set r (.mapIter (some m) since (seen ++ [e.born]) clock))
    | _, _ => none
def next' (it : Value) (isString : Bool) (σ : AHeap) : Option (Value × AHeap) := match it with
  | .pointer (some ⟨r, 0, none⟩) => match σ.get r, isString with
    | some (.strIter s pos), true => match pos.blt s.size with
      | true => some (.tuple #[.bool true, goInt pos, .int .i32 (Utf8.decode s pos).1], σ.set r (.strIter s (pos + (Utf8.decode s pos).2)))
      | false => some (.tuple #[.bool false], σ)
    | some (.mapIter none _ _ _), false => some (.tuple #[.bool false], σ)
    | some (.mapIter (some m) since seen last), false => match σ.get m with
      | some (.map es clock _) => nextMap r m since seen last es clock σ
      | _ => none
    | _, _ => none
  | _ => none
def entry' (it : Value) (σ : AHeap) : Option Value := match it with
  | .pointer (some ⟨r, 0, none⟩) => match σ.get r with
    | some (.mapIter (some m) _ seen stepped) => match seen.getLast?, σ.get m with
      | some stamp, some (.map es clock _) => match clock.beq stepped with
        | true => match es.find? (fun e => e.born == stamp) with
          | some e => some (.tuple #[e.key, e.val])
          | none => none
        | false => none
      | _, _ => none
    | _ => none
  | _ => none

def typeAssert' (P : Program) (x : Value) (asserted : TypeId) (ok : Bool) : Option Value :=
  let holds (v : Value) : Value := if ok then .tuple #[v, .bool true] else v
  let fails : Option Value := if ok then (zeroOf P asserted).map fun z => .tuple #[z, .bool false] else none
  match P.underlying asserted, x with
  | some (.interface _), .nilIface => fails
  | some (.interface want), .iface t _ => match P.info? t with
    | some i => match Instr.missingMethod want i.methods with
      | none => some (holds x)
      | some _ => fails
    | none => none
  | some _, .nilIface => fails
  | some _, .iface t v => if t = asserted then some (holds v) else fails
  | _, _ => none

/-- An element's size and zero cells. -/
def elemOk (P : Program) (e : TypeId) : Option (Nat × List Value) := match P.info? e with
  | some i => match i.zero with
    | some z => match plain z && z.cells.size.beq i.size && i.bytes.ble 1048576 with
      | true => some (i.size, z.cells.toList)
      | false => none
    | none => none
  | none => none

/-- Cells appended to a slice. -/
def appendCells (elem size : Nat) (base : Option Addr) (sLen sCap n : Nat) (cs : List Value) (σ : AHeap) : Option (Value × AHeap) :=
  match (sLen + n).ble sCap with
  | true => match base with
    | none => some (.slice none (sLen + n) sCap, σ)
    | some a => match stCells σ a.block (a.off + sLen * size) cs with
      | some σ => some (.slice (some a) (sLen + n) sCap, σ)
      | none => none
  | false => match firstCells' size sLen σ (.slice base sLen sCap) with
    | some old => match (sLen + n).ble 1048576 && old.length.beq (sLen * size) && cs.length.beq (n * size) && cs.all single with
     | true => match base with
      | none => let (b, σ) := newCells σ elem (old ++ cs) true; some (.slice (some ⟨b, 0, none⟩) (sLen + n) (sLen + n), σ)
      | some a => match a.spot with
        | some _ => let (b, σ) := newCells σ elem (old ++ cs) true; some (.slice (some ⟨b, 0, none⟩) (sLen + n) (sLen + n), σ)
        | none => match σ.get a.block with
          -- a row that grew itself may be written in place: it is dropped
          | some (.cells _ _ e true false) => match e.beq elem with
            | true => let (b, σ) := newCells (σ.drop a.block) elem (old ++ cs) true; some (.slice (some ⟨b, 0, none⟩) (sLen + n) (sLen + n), σ)
            | false => none
          | some (.cells _ _ _ false _) => let (b, σ) := newCells σ elem (old ++ cs) true; some (.slice (some ⟨b, 0, none⟩) (sLen + n) (sLen + n), σ)
          | _ => none
     | false => none
    | none => none
def append' (P : Program) (sType : TypeId) (xType : Option TypeId) (s x : Value) (σ : AHeap) : Option (Value × AHeap) := match P.underlying sType, s with
  | some (.slice elem), .slice base sLen sCap => match elemOk P elem, xType with
    | some (size, _), some xt => match P.underlying xt with
      | some (.int _) => none
      | some _ => match lenOf' x with
        | some n => match firstCells' size n σ x with
          | some cs => appendCells elem size base sLen sCap n cs σ
          | none => none
        | none => none
      | none => none
    | _, _ => none
  | _, _ => none

def mm (P : Program) (lss : Bool) (x y : Value) : Option Value := match atom x && atom y with
  | true => atomic (pureP P (if lss then Builtin.min2 x y else Builtin.max2 x y))
  | false => none
def mmAll (P : Program) (lss : Bool) : Value → List Value → Option Value
  | x, [] => some x
  | x, y :: r => match mm P lss x y with
    | some z => mmAll P lss z r
    | none => none
def un (P : Program) (op : UnOp) (x : Value) : Option Value := match atom x with
  | true => atomic (pureP P (Op.unary op x))
  | false => none

def builtin' (P : Program) (b : Builtin) (ts : Array TypeId) (args : List Value) (σ : AHeap) : Option (Value × AHeap) := match b, args with
  | .append, [s, x] => (ts[0]?).bind fun t => append' P t ts[1]? s x σ
  | .len, [x] => match (ts[0]?).bind P.underlying, x with
    | some .string, .string s => some (goInt s.size, σ)
    | some (.array n _), _ => some (goInt n, σ)
    | some (.pointer arr), _ => match P.underlying arr with
      | some (.array n _) => some (goInt n, σ)
      | _ => none
    | some (.slice _), .slice _ n _ => some (goInt n, σ)
    | some (.map ..), .map none => some (goInt 0, σ)
    | some (.map ..), .map (some r) => match σ.get r with
      | some (.map es _ _) => some (goInt es.length, σ)
      | _ => none
    | _, _ => none
  | .cap, [x] => match (ts[0]?).bind P.underlying, x with
    | some (.array n _), _ => some (goInt n, σ)
    | some (.slice _), .slice none _ n => some (goInt n, σ)
    | some (.slice _), .slice (some a) _ n => match a.spot, σ.get a.block with
      | some _, _ => some (goInt n, σ)
      | none, some (.cells _ _ _ false _) => some (goInt n, σ)
      | _, _ => none
    | _, _ => none
  | .copy, [d, s] => match (ts[0]?).bind P.underlying, d with
    | some (.slice elem), .slice base dLen dCap => match sizeOf' P elem, lenOf' s, dLen.ble dCap with
      | some size, some sl, true => match firstCells' size (Nat.min sl dLen) σ s with
        | some cs => match base with
          | none => some (goInt (Nat.min sl dLen), σ)
          | some a => match stCells σ a.block a.off cs with
            | some σ => some (goInt (Nat.min sl dLen), σ)
            | none => none
        | none => none
      | _, _, _ => none
    | _, _ => none
  | .delete, [m, k] => (ts[0]?).bind fun t => (mapDel P t m k σ).map fun σ => (.tuple #[], σ)
  | .clear, [x] => match (ts[0]?).bind P.underlying, x with
    | some (.slice elem), .slice (some a) n c => match elemOk P elem, n.ble c with
      | some (_, z), true => match stCells σ a.block a.off (zerosN z n) with
        | some σ => some (.tuple #[], σ)
        | none => none
      | _, _ => none
    | _, _ => none
  | .min, x :: rest => (mmAll P true x rest).map (·, σ)
  | .max, x :: rest => (mmAll P false x rest).map (·, σ)
  | _, _ => none

/-- A method's receiver, by the path of its row: a value, or a variable's place. -/
inductive APl where
  | val (v : Value)
  | var (b off : Nat)
def APl.get (P : Program) (t : TypeId) (σ : AHeap) : APl → Option Value
  | .val v => some v
  | .var b off => ldVar P t σ b off
/-- A field's place, of a field that has cells. -/
def fieldOff (P : Program) (s : FieldStep) : Option Field := match P.underlying s.struct with
  | some (.struct fields) => match fields[s.index]? with
    | some f => match sizeOf' P f.type with
      | some (_ + 1) => some f
      | _ => none
    | none => none
  | _ => none
def follow' (P : Program) : List FieldStep → TypeId → APl → AHeap → Option (TypeId × APl)
  | [], t, x, _ => some (t, x)
  | s :: rest, t, x, σ => match fieldOff P s with
    | none => none
    | some f => match s.deref with
      | true => match x.get P t σ with
        | some (.pointer (some ⟨b, off, none⟩)) => follow' P rest f.type (.var b (off + f.offset)) σ
        | _ => none
      | false => match x with
        | .var b off => follow' P rest f.type (.var b (off + f.offset)) σ
        | .val (.agg cs) => match part' P f.type cs f.offset with
          | some v => follow' P rest f.type (.val v) σ
          | none => none
        | .val _ => none
def receiver' (P : Program) (xt : TypeId) (x : APl) (pointer : Bool) (σ : AHeap) : Option Value := match P.underlying xt, pointer with
  | some (.pointer _), true => x.get P xt σ
  | some (.pointer elem), false => match x.get P xt σ with
    | some (.pointer (some ⟨b, off, none⟩)) => ldVar P elem σ b off
    | _ => none
  | some _, true => match x with
    | .var b off => some (ptr b off)
    | .val _ => none
  | some _, false => x.get P xt σ
  | none, _ => none
def method' (P : Program) : Nat → TypeId → Value → String → AHeap → Option (FuncId × Value)
  | 0, _, _, _, _ => none
  | n + 1, t, v, name, σ => match P.info? t with
    | none => none
    | some i => match i.methods.find? (fun m => m.name == name) with
      | none => none
      | some m => match follow' P m.path.toList t (.val v) σ with
        | none => none
        | some (xt, x) => match m.func with
          | none => match x.get P xt σ with
            | some (.iface t' v') => method' P n t' v' name σ
            | _ => none
          | some (f, pointer) => match receiver' P xt x pointer σ with
            | some r => some (f, r)
            | none => none
/-- A function that is entered when it is called. -/
def enters (P : Program) (f : FuncId) : Bool := match P.funcs[f]? with
  | some fn => fn.body.isSome && !(fn.name == "runtime.NumGoroutine")
  | none => false

abbrev CallF := FuncId → List Value → AHeap → Option (Value × AHeap)

def aop (P : Program) (call : CallF) (o : Oper) (fr : AFr) (σ : AHeap) : Option (Value × AHeap) :=
  match o.op with
  | .move x => some (fr.eval x, σ)
  | .assign x => some (fr.eval x, σ)
  | .pick c a b => match fr.eval c with
    | .bool true => some (fr.eval a, σ)
    | .bool false => some (fr.eval b, σ)
    | _ => none
  | .alloc e => match zeroOf P e with
    | some z => let (b, σ) := newCells σ e z.cells.toList; some (ptr b 0, σ)
    | none => none
  | .box e x => let (b, σ) := newCells σ e (fr.eval x).cells.toList; some (ptr b 0, σ)
  | .build t parts => (build' P t (parts.toList.map fun (i, x) => (i, fr.eval x))).map (·, σ)
  | .buildSlice t len parts => match P.underlying t with
    | some (.slice elem) => match elemOk P elem with
      | some (size, z) => match (len * size).ble 1048576 with
        | true => match fill' (fun i => some (i * size, size)) (zerosN z len) (parts.toList.map fun (i, x) => (i, fr.eval x)) with
          | some cs => let (b, σ) := newCells σ elem cs; some (.slice (some ⟨b, 0, none⟩) len len, σ)
          | none => none
        | false => none
      | none => none
    | _ => none
  | .load t a => match fr.eval a with
    | .pointer (some ⟨b, off, none⟩) => (ldVar P t σ b off).map (·, σ)
    | _ => none
  | .store t a x => match fr.eval a with
    | .pointer (some ⟨b, off, none⟩) =>
      let v := fr.eval x
      match sizeOf' P t with
      | some n => if v.cells.size = n then (stCells σ b off v.cells.toList).map fun σ => (undef, σ) else none
      | none => none
    | _ => none
  | .nilCheck x => match fr.eval x with
    | .pointer (some a) => some (.pointer (some a), σ)
    | .iface t v => some (.iface t v, σ)
    | .func (.func f) a b => some (.func (.func f) a b, σ)
    | .func (.methodOf t n) a b => some (.func (.methodOf t n) a b, σ)
    | .func (.via t p f q) a b => some (.func (.via t p f q) a b, σ)
    | _ => none
  | .binOp op t x y _ => (bin P op t x y (fr.eval x) (fr.eval y)).map (·, σ)
  | .unOp op _ x => (un P op (fr.eval x)).map (·, σ)
  | .convert src dst x => conv P src dst (fr.eval x) σ
  | .sliceToArrayPointer arr x => match P.underlying arr, fr.eval x with
    | some (.array n _), .slice a len _ => match a with
      | some a => match a.spot with
        | none => match Nat.blt 0 n && n.ble len with
          | true => some (.pointer (some a), σ)
          | false => none
        | some _ => none
      | none => none
    | _, _ => none
  | .makeInterface t x => match P.underlying t with
    | some (.interface _) => none
    | some _ => some (.iface t (fr.eval x), σ)
    | none => none
  | .makeFunc fn first captured => some (.func fn (first.map fr.eval) (captured.map fr.eval), σ)
  | .makeMap t r => match r with
    | none => let (b, σ) := σ.new (.map [] 0 false); some (.map (some b), σ)
    | some h => match P.underlying t, fr.eval h with
      | some (.map ..), .int .. => let (b, σ) := σ.new (.map [] 0 false); some (.map (some b), σ)
      | _, _ => none
  | .makeSlice t l c => match P.underlying t, natOf (fr.eval l), natOf (fr.eval c) with
    | some (.slice elem), some l, some c => match elemOk P elem, l.ble c && c.ble 1048576 with
      | some (_, z), true => let (b, σ) := newCells σ elem (zerosN z c); some (.slice (some ⟨b, 0, none⟩) l c, σ)
      | _, _ => none
    | _, _, _ => none
  | .slice t x lo hi mx => (sliceOp P t (fr.eval x) (lo.map fr.eval) (hi.map fr.eval) (mx.map fr.eval) σ).map (·, σ)
  | .fieldAddr s x f => (fieldAddr P s (fr.eval x) f).map (·, σ)
  | .field t x f => (fieldVal P t (fr.eval x) f).map (·, σ)
  | .indexAddr t x ix => (indexAddr P t (fr.eval x) (fr.eval ix)).map (·, σ)
  | .index t x ix => (indexVal P t (fr.eval x) (fr.eval ix)).map (·, σ)
  | .lookup t x ix ok => (lookup' P t (fr.eval x) (fr.eval ix) ok σ).map (·, σ)
  | .mapUpdate t m k x => (mapPut P t (fr.eval m) (fr.eval k) (fr.eval x) σ).map (undef, ·)
  | .insert t m k x => (mapPut P t (fr.eval m) (fr.eval k) (fr.eval x) σ).map (undef, ·)
  | .mapEntry t m k => mapEntry' P t (fr.eval m) (fr.eval k) σ
  | .entryStore _ m s x => (entryStore' (fr.eval m) (fr.eval s) (fr.eval x) σ).map (undef, ·)
  | .range t x => range' P t (fr.eval x) σ
  | .next it isString => next' (fr.eval it) isString σ
  | .entry it => (entry' (fr.eval it) σ).map (·, σ)
  | .typeAssert x _ asserted ok => (typeAssert' P (fr.eval x) asserted ok).map (·, σ)
  | .extract t ix => match fr.eval t with
    | .tuple vs => (vs[ix]?).map (·, σ)
    | _ => none
  | .call c => match c.callee with
    | .builtin b => builtin' P b c.argTypes (c.args.toList.map fr.eval) σ
    | .value f => match fr.eval f with
      | .func (.func f) first captured => match enters P f with
        | true => call f (first.toList ++ c.args.toList.map fr.eval ++ captured.toList) σ
        | false => none
      | _ => none
    | .invoke recv name => match fr.eval recv with
      | .iface t v => match method' P 4 t v name σ with
        | some (f, r) => match enters P f with
          | true => call f (r :: c.args.toList.map fr.eval) σ
          | false => none
        | none => none
      | _ => none
  | _ => none

/-! Regions. -/

/-- Of a region whose order is drawn: what may change places. -/
inductive Cls where
  | pure | reads | acts
  deriving DecidableEq, Repr
def clsOf (P : Program) : Op → Cls
  | .move _ | .assign _ | .pick .. | .build .. | .nilCheck _ | .binOp .. | .unOp .. | .makeInterface .. | .makeFunc .. | .fieldAddr .. | .field .. | .indexAddr .. | .index .. | .typeAssert .. | .extract .. | .sliceToArrayPointer .. => .pure
  | .load .. | .lookup .. | .entry _ | .slice .. => .reads
  | .convert _ dst _ => match P.underlying dst with
    | some (.slice _) => .acts
    | _ => .reads
  | .call { callee := .builtin b, .. } => match b with
    | .len | .cap | .min | .max => .reads
    | _ => .acts
  | _ => .acts
def acts (P : Program) (o : Oper) : Bool := match clsOf P o.op with
  | .acts => true
  | _ => false
def isReads (P : Program) (o : Oper) : Bool := match clsOf P o.op with
  | .reads => true
  | _ => false

/-- What an operation waits for, as bits; acc: the same of those ahead of it. -/
def maskOf (acc : List Nat) : List Edge → Nat → Nat
  | [], m => m
  | e :: es, m => match Region.binds .any e with
    | true => maskOf acc es (m ||| 2 ^ e.on ||| acc.getD e.on 0)
    | false => maskOf acc es m
def masks : List Oper → List Nat → List Nat
  | [], acc => acc
  | o :: rest, acc => masks rest (acc ++ [maskOf acc o.after.toList 0])
/-- Does j wait for i (on whichever way)? -/
def waitsFor (ops : List Oper) (j i : Nat) : Bool := ((masks ops []).getD j 0).testBit i

def opTmps (o : Oper) : List Tmp := o.op.operands.toList.filterMap fun x => match x with | .tmp t => some t | _ => none
/-- A drawn region whose order of the text serves: the edges lead back; no slot is written twice; what an operation reads of the region it waits for; what acts stands in a chain. -/
def drawOk (P : Program) (fls : List Nat) (ops : List Oper) : Bool :=
  (List.range ops.length).all fun j => match ops[j]? with
    | none => true
    | some b =>
      (b.after.toList.all fun e => !Region.binds .any e || e.on.blt j) &&
      (match b.guard with
        | none => true
        | some (g, _) => waitsFor ops j g) &&
      ((List.range ops.length).all fun i => i.beq j || match ops[i]? with
        | none => true
        | some a =>
          (match a.dst with
            | none => true
            | some d => !(b.dst == some d) && (!((opTmps b).contains d) || waitsFor ops j i)) &&
          (!(acts P a && acts P b && !fls.contains i && !fls.contains j && i.blt j) || waitsFor ops j i))
/-- The pairs (what acts, what reads) that a draw may turn round. -/
def unruly (P : Program) (ops : List Oper) : List (Nat × Nat) :=
  (List.range ops.length).flatMap fun u => match ops[u]? with
    | none => []
    | some a => match acts P a with
      | false => []
      | true => (List.range ops.length).filterMap fun i => match ops[i]? with
        | none => none
        | some b => match isReads P b && !waitsFor ops u i && !waitsFor ops i u with
          | true => some (u, i)
          | false => none

def yields (ops : List Oper) (fr : AFr) (j : Nat) : Option Bool := match ops[j]? with
  | some o => match o.dst with
    | some d => match fr.at_ d with
      | .bool b => some b
      | _ => none
    | none => none
  | none => none
def wanted' (ops : List Oper) (fr : AFr) (o : Oper) : Bool := match o.guard with
  | none => true
  | some (j, want) => match yields ops fr j with
    | some b => b == want
    | none => false

def runOps (P : Program) (call : CallF) (ops : List Oper) : List Oper → AFr → AHeap → Option (AFr × AHeap)
  | [], fr, σ => some (fr, σ)
  | o :: rest, fr, σ => match wanted' ops fr o with
    | false => runOps P call ops rest (fr.put o.dst undef) σ
    | true => match aop P call o fr σ with
      | none => none
      | some (v, σ) => runOps P call ops rest (fr.put o.dst v) σ

/-- The same, with the frames and heaps ahead of each operation, and what it told. -/
def runTr (P : Program) (call : CallF) (ops : List Oper) : List Oper → AFr → AHeap → Option (List (AFr × AHeap × Value) × AFr × AHeap)
  | [], fr, σ => some ([], fr, σ)
  | o :: rest, fr, σ => match wanted' ops fr o with
    | false => match runTr P call ops rest (fr.put o.dst undef) σ with
      | some (l, r) => some ((fr, σ, undef) :: l, r)
      | none => none
    | true => match aop P call o fr σ with
      | none => none
      | some (v, σ') => match runTr P call ops rest (fr.put o.dst v) σ' with
        | some (l, r) => some ((fr, σ, v) :: l, r)
        | none => none

def sameV : Nat → Value → Value → Bool
  | 0, _, _ => false
  | n + 1, a, b => match a, b with
    | .bool x, .bool y => x == y
    | .int j x, .int k y => j == k && x == y
    | .float j x, .float k y => j == k && x.beq y
    | .string x, .string y => x.data.toList == y.data.toList
    | .pointer x, .pointer y => x == y
    | .slice x n1 c1, .slice y n2 c2 => x == y && n1.beq n2 && c1.beq c2
    | .map x, .map y => x == y
    | .nilFunc, .nilFunc => true
    | .nilIface, .nilIface => true
    | .iface t x, .iface u y => t.beq u && sameV n x y
    | .agg x, .agg y => x.size.beq y.size && (x.toList.zip y.toList).all fun (p, q) => sameV n p q
    | .tuple x, .tuple y => x.size.beq y.size && (x.toList.zip y.toList).all fun (p, q) => sameV n p q
    | .func (.func f) a b, .func (.func g) c d => f.beq g && ((a.size.beq c.size && (a.toList.zip c.toList).all fun (p, q) => sameV n p q) && (b.size.beq d.size && (b.toList.zip d.toList).all fun (p, q) => sameV n p q))
    | _, _ => false
/-- Does it tell the same over that heap? -/
def retells (P : Program) (call : CallF) (o : Oper) (fr : AFr) (v : Value) (σ : AHeap) : Bool := match aop P call o fr σ with
  | some (u, _) => sameV 6 u v
  | none => false
def retold (P : Program) (call : CallF) (ops : List Oper) (tr : List (AFr × AHeap × Value)) (fin : AHeap) : List (Nat × Nat) → Bool
  | [] => true
  | (u, i) :: rest => (match ops[i]?, tr[i]?, tr[u]? with
    | some o, some (fr, _, v), some (_, σu, _) => match wanted' ops fr o with
      | false => true
      | true => retells P call o fr v σu && retells P call o fr v (match tr[u + 1]? with | some (_, σ, _) => σ | none => fin)
    | _, _, _ => false) && retold P call ops tr fin rest

/-- A row that stands beside the heap until it is waited for. -/
structure Fl where
  p : Nat
  e : TypeId
  vs : List Value
def Fl.obj (f : Fl) : AObj := .cells f.vs.length (Tr.ofList f.vs 0 .leaf) f.e false false
def landAll (base : Nat) : List Fl → AHeap → AHeap
  | [], σ => σ
  | f :: l, σ => (landAll base l σ).set (base + f.p) f.obj
/-- What an operation makes that makes a row and nothing else. -/
def flOf (P : Program) (o : Oper) (fr : AFr) : Option (TypeId × List Value × Option Nat) := match o.op with
  | .alloc e => match zeroOf P e with
    | some z => some (e, z.cells.toList, none)
    | none => none
  | .buildSlice t len parts => match P.underlying t with
    | some (.slice elem) => match elemOk P elem with
      | some (size, z) => match (len * size).ble 1048576 with
        | true => match fill' (fun i => some (i * size, size)) (zerosN z len) (parts.toList.map fun (i, x) => (i, fr.eval x)) with
          | some cs => some (elem, cs, some len)
          | none => none
        | false => none
      | none => none
    | _ => none
  | _ => none
def flV (b : Nat) : Option Nat → Value
  | none => ptr b 0
  | some len => .slice (some ⟨b, 0, none⟩) len len
def isFlop : Op → Bool
  | .alloc _ => true
  | .buildSlice .. => true
  | _ => false
/-- The operations of a region that make a row and stand in no chain. -/
def floats (P : Program) (ops : List Oper) : List Nat := (List.range ops.length).filter fun u => match ops[u]? with
  | some a => isFlop a.op && (List.range ops.length).any fun j => match ops[j]? with
    | some b => !(u.beq j) && acts P b && !waitsFor ops u j && !waitsFor ops j u
    | none => false
  | none => false
def stepFl (P : Program) (call : CallF) (ops : List Oper) (fls : List Nat) (base : Nat) (o : Oper) (i : Nat) (ps : List Fl) (fr : AFr) (σ : AHeap) : Option (Value × List Fl × AHeap) := match wanted' ops fr o with
  | false => some (undef, ps, σ)
  | true => match fls.contains i with
    | true => match flOf P o fr with
      | some (e, vs, k) => some (flV (base + i) k, ⟨i, e, vs⟩ :: ps, σ)
      | none => none
    | false => match acts P o with
      | true => match aop P call o fr (landAll base (ps.filter fun f => waitsFor ops i f.p) σ) with
        | some (v, σ2) => some (v, ps.filter fun f => !waitsFor ops i f.p, σ2)
        | none => none
      | false => match aop P call o fr σ with
        | some (v, _) => some (v, ps, σ)
        | none => none
def runFl (P : Program) (call : CallF) (ops : List Oper) (fls : List Nat) (base : Nat) : List Oper → Nat → List Fl → AFr → AHeap → Option (List (AFr × AHeap × Value) × List (List Fl) × List Fl × AFr × AHeap)
  | [], _, ps, fr, σ => some ([], [], ps, fr, σ)
  | o :: rest, i, ps, fr, σ => match stepFl P call ops fls base o i ps fr σ with
    | none => none
    | some (v, ps2, σ2) => match runFl P call ops fls base rest (i + 1) ps2 (fr.put o.dst v) σ2 with
      | some (tr, pl, r) => some ((fr, σ, v) :: tr, ps :: pl, r)
      | none => none
def regionF (P : Program) (call : CallF) (ops : List Oper) (fls : List Nat) (fr : AFr) (σ : AHeap) : Option (AFr × AHeap) := match drawOk P fls ops with
  | false => none
  | true => match runFl P call ops fls σ.next ops 0 [] fr ⟨σ.next + ops.length, σ.m⟩ with
    | some (tr, _, pe, fr', σ') => match retold P call ops tr σ' (unruly P ops) with
      | true => some (fr', landAll σ.next pe σ')
      | false => none
    | none => none

def region' (P : Program) (call : CallF) (ops : List Oper) (draw : Bool) (fr : AFr) (σ : AHeap) : Option (AFr × AHeap) := match draw with
  | false => runOps P call ops ops fr σ
  | true => match drawOk P [] ops with
    | false => regionF P call ops (floats P ops) fr σ
    | true => match unruly P ops with
      | [] => runOps P call ops ops fr σ
      | ps => match runTr P call ops ops fr σ with
        | some (tr, fr', σ') => match retold P call ops tr σ' ps with
          | true => some (fr', σ')
          | false => none
        | none => none

inductive AExit where
  | normal
  | exit (id : Nat)
  | ret

def loopN (body : AFr → AHeap → Option (AExit × AFr × AHeap)) : Nat → AFr → AHeap → Option (AExit × AFr × AHeap)
  | 0, _, _ => none
  | n + 1, fr, σ => match body fr σ with
    | some (.normal, fr, σ) => loopN body n fr σ
    | r => r

def exec (P : Program) (call : CallF) (n : Nat) : Code → AFr → AHeap → Option (AExit × AFr × AHeap)
  | .skip, fr, σ => some (.normal, fr, σ)
  | .label _, fr, σ => some (.normal, fr, σ)
  | .region _ ops draw, fr, σ => match region' P call ops.toList draw fr σ with
    | some (fr, σ) => some (.normal, fr, σ)
    | none => none
  | .seq a b, fr, σ => match exec P call n a fr σ with
    | some (.normal, fr, σ) => exec P call n b fr σ
    | r => r
  | .cond c a b, fr, σ => match fr.eval c with
    | .bool true => exec P call n a fr σ
    | .bool false => exec P call n b fr σ
    | _ => none
  | .block id body, fr, σ => match exec P call n body fr σ with
    | some (.exit id', fr, σ) => match id'.beq id with
      | true => some (.normal, fr, σ)
      | false => some (.exit id', fr, σ)
    | r => r
  | .loop body, fr, σ => loopN (exec P call n body) n fr σ
  | .exit id, fr, σ => some (.exit id, fr, σ)
  | .ret, fr, σ => some (.ret, fr, σ)
  | .scope body, fr, σ => exec P call n body fr σ
  | _, _, _ => none

def resOne (P : Program) (fr : AFr) (σ : AHeap) : ResultVar → Option Value
  | .tmp t => some (fr.at_ t)
  | .cell a t => match fr.at_ a with
    | .pointer (some ⟨b, off, none⟩) => ldVar P t σ b off
    | _ => none
def resAll (P : Program) (fr : AFr) (σ : AHeap) : List ResultVar → Option (List Value)
  | [] => some []
  | r :: rs => match resOne P fr σ r, resAll P fr σ rs with
    | some v, some vs => some (v :: vs)
    | _, _ => none
def results' (P : Program) (fn : Func) (fr : AFr) (σ : AHeap) : Option Value := match resAll P fr σ fn.results.toList with
  | some [v] => some v
  | some vs => some (.tuple vs.toArray)
  | none => none

/-- What the operands of an operation may be: plain constants, the globals that are named. -/
def opdOk (gs : List Nat) : Operand → Bool
  | .const v => plain v
  | .global g => gs.contains g
  | _ => true
def operOk (gs : List Nat) (o : Oper) : Bool := o.op.operands.toList.all (opdOk gs)
def codeOk (gs : List Nat) : Code → Bool
  | .region _ ops _ => ops.toList.all (operOk gs)
  | .seq a b => codeOk gs a && codeOk gs b
  | .cond c a b => opdOk gs c && codeOk gs a && codeOk gs b
  | .block _ b => codeOk gs b
  | .loop b => codeOk gs b
  | .scope b => codeOk gs b
  | _ => true

abbrev Orc := FuncId → Option (List Value → AHeap → Option (Value × AHeap))

def acall (P : Program) (gs : List Nat) (orc : Orc) : Nat → CallF
  | 0 => fun _ _ _ => none
  | n + 1 => fun f args σ => match orc f with
    | some g => g args σ
    | none => match P.funcs[f]? with
      | none => none
      | some fn => match fn.body with
        | none => none
        | some c => match codeOk gs c with
          | false => none
          | true => match exec P (acall P gs orc n) n c ⟨max fn.ntmps args.length, Tr.ofList args 0 .leaf⟩ σ with
            | some (.normal, fr, σ) => match results' P fn fr σ with
              | some v => some (v, σ)
              | none => none
            | some (.ret, fr, σ) => match results' P fn fr σ with
              | some v => some (v, σ)
              | none => none
            | _ => none
end Go.AE
end
/- The evaluator's tries and heaps: plain laws. -/
section
set_option linter.all false
namespace Go.AE

theorem beq_tf (a b : Nat) : a.beq b = decide (a = b) := by
  by_cases h : a = b
  · subst h; simp [Nat.beq_refl]
  · rw [decide_eq_false h]; exact Bool.eq_false_iff.2 fun e => h (Nat.eq_of_beq_eq_true e)

theorem Tr.get_node {α : Type} (l r : Tr α) (v : Option α) (n : Nat) : (Tr.node l v r).get n = if n = 0 then v else if n % 2 = 1 then l.get (n / 2) else r.get (n / 2 - 1) := by
  rw [Tr.get]
  by_cases h0 : n = 0
  · simp [beq_tf, h0]
  · by_cases h1 : n % 2 = 1 <;> simp [beq_tf, h0, h1]
@[simp] theorem Tr.get_leaf {α : Type} (n : Nat) : (Tr.leaf : Tr α).get n = none := rfl
theorem Tr.putF_leaf {α : Type} (k n : Nat) (x : Option α) : Tr.putF (k + 1) .leaf n x = if n = 0 then .node .leaf x .leaf else if n % 2 = 1 then .node (Tr.putF k .leaf (n / 2) x) none .leaf else .node .leaf none (Tr.putF k .leaf (n / 2 - 1) x) := by
  rw [Tr.putF]
  by_cases h0 : n = 0
  · simp [beq_tf, h0]
  · by_cases h1 : n % 2 = 1 <;> simp [beq_tf, h0, h1]
theorem Tr.putF_node {α : Type} (l r : Tr α) (v : Option α) (k n : Nat) (x : Option α) : Tr.putF (k + 1) (.node l v r) n x = if n = 0 then .node l x r else if n % 2 = 1 then .node (Tr.putF k l (n / 2) x) v r else .node l v (Tr.putF k r (n / 2 - 1) x) := by
  rw [Tr.putF]
  by_cases h0 : n = 0
  · simp [beq_tf, h0]
  · by_cases h1 : n % 2 = 1 <;> simp [beq_tf, h0, h1]
theorem Tr.get_putF {α : Type} (x : Option α) : ∀ (k : Nat) (t : Tr α) (n m : Nat), n < k → (Tr.putF k t n x).get m = if m = n then x else t.get m
  | 0, _, _, _, h => by omega
  | k + 1, .leaf, n, m, h => by
    rw [Tr.putF_leaf]
    by_cases h0 : n = 0
    · rw [if_pos h0, Tr.get_node]; subst h0; by_cases hm : m = 0 <;> simp [hm]
    · rw [if_neg h0]
      by_cases h1 : n % 2 = 1
      · rw [if_pos h1, Tr.get_node, Tr.get_putF x k .leaf (n / 2) (m / 2) (by omega)]
        by_cases hm : m = n
        · subst hm; simp [h0, h1]
        · rw [if_neg hm]
          by_cases m0 : m = 0
          · simp [m0]
          · by_cases m1 : m % 2 = 1
            · rw [if_neg m0, if_pos m1, if_neg (by omega)]; rfl
            · rw [if_neg m0, if_neg m1]; rfl
      · rw [if_neg h1, Tr.get_node, Tr.get_putF x k .leaf (n / 2 - 1) (m / 2 - 1) (by omega)]
        by_cases hm : m = n
        · subst hm; simp [h0, h1]
        · rw [if_neg hm]
          by_cases m0 : m = 0
          · simp [m0]
          · by_cases m1 : m % 2 = 1
            · rw [if_neg m0, if_pos m1]; rfl
            · rw [if_neg m0, if_neg m1, if_neg (by omega)]; rfl
  | k + 1, .node l v r, n, m, h => by
    rw [Tr.putF_node]
    by_cases h0 : n = 0
    · rw [if_pos h0, Tr.get_node, Tr.get_node]; subst h0; by_cases hm : m = 0 <;> simp [hm]
    · rw [if_neg h0]
      by_cases h1 : n % 2 = 1
      · rw [if_pos h1, Tr.get_node, Tr.get_putF x k l (n / 2) (m / 2) (by omega), Tr.get_node]
        by_cases hm : m = n
        · subst hm; simp [h0, h1]
        · rw [if_neg hm]
          by_cases m0 : m = 0
          · simp [m0]
          · by_cases m1 : m % 2 = 1
            · rw [if_neg m0, if_pos m1, if_neg (by omega), if_neg m0, if_pos m1]
            · rw [if_neg m0, if_neg m1, if_neg m0, if_neg m1]
      · rw [if_neg h1, Tr.get_node, Tr.get_putF x k r (n / 2 - 1) (m / 2 - 1) (by omega), Tr.get_node]
        by_cases hm : m = n
        · subst hm; simp [h0, h1]
        · rw [if_neg hm]
          by_cases m0 : m = 0
          · simp [m0]
          · by_cases m1 : m % 2 = 1
            · rw [if_neg m0, if_pos m1, if_neg m0, if_pos m1]
            · rw [if_neg m0, if_neg m1, if_neg (by omega), if_neg m0, if_neg m1]
theorem Tr.get_put {α : Type} (t : Tr α) (n m : Nat) (x : Option α) : (t.put n x).get m = if m = n then x else t.get m := Tr.get_putF x (n + 1) t n m (Nat.lt_succ_self n)
theorem Tr.get_ofList {α : Type} : ∀ (xs : List α) (n m : Nat) (t : Tr α), (Tr.ofList xs n t).get m = if n ≤ m ∧ m < n + xs.length then xs[m - n]? else t.get m
  | [], n, m, t => by rw [Tr.ofList, if_neg (by simp <;> omega)]
  | x :: xs, n, m, t => by
    rw [Tr.ofList, Tr.get_ofList xs (n + 1) m, Tr.get_put]
    by_cases h : m = n
    · subst h
      rw [if_neg (by omega), if_pos rfl, if_pos (by simp)]
      simp
    · rw [if_neg h]
      by_cases h2 : n + 1 ≤ m ∧ m < n + 1 + xs.length
      · rw [if_pos h2, if_pos (by simp; omega)]
        obtain ⟨k, hk⟩ : ∃ k, m - n = k + 1 := ⟨m - n - 1, by omega⟩
        rw [hk, show m - (n + 1) = k by omega]
        simp
      · rw [if_neg h2, if_neg (by simp; omega)]
theorem Tr.get_of {α : Type} (xs : List α) (m : Nat) : (Tr.ofList xs 0 .leaf).get m = xs[m]? := by
  rw [Tr.get_ofList]
  by_cases h : m < xs.length
  · rw [if_pos (by omega)]; simp
  · rw [if_neg (by omega), List.getElem?_eq_none (by omega)]; rfl

@[simp] theorem AHeap.get_set (σ : AHeap) (b b' : Nat) (o : AObj) : (σ.set b o).get b' = if b' = b then some o else σ.get b' := Tr.get_put _ _ _ _
@[simp] theorem AHeap.get_drop (σ : AHeap) (b b' : Nat) : (σ.drop b).get b' = if b' = b then none else σ.get b' := Tr.get_put _ _ _ _
theorem AHeap.get_new (σ : AHeap) (o : AObj) (b' : Nat) : (σ.new o).2.get b' = if b' = σ.next then some o else σ.get b' := Tr.get_put _ _ _ _
@[simp] theorem AHeap.next_set (σ : AHeap) (b : Nat) (o : AObj) : (σ.set b o).next = σ.next := rfl
@[simp] theorem AHeap.next_drop (σ : AHeap) (b : Nat) : (σ.drop b).next = σ.next := rfl
@[simp] theorem AHeap.next_new (σ : AHeap) (o : AObj) : (σ.new o).2.next = σ.next + 1 := rfl
@[simp] theorem AHeap.new_fst (σ : AHeap) (o : AObj) : (σ.new o).1 = σ.next := rfl

/-- Cells read one behind the other. -/
theorem ldN_spec (c : Tr Value) : ∀ (n off : Nat) (vs : List Value), ldN c off n = some vs → vs.length = n ∧ ∀ j v, vs[j]? = some v → c.get (off + j) = some v
  | 0, off, vs, h => by simp [ldN] at h; subst h; simp
  | n + 1, off, vs, h => by
    rw [ldN] at h
    cases hc : c.get off with
    | none => rw [hc] at h; simp at h
    | some v =>
      rw [hc] at h
      cases hr : ldN c (off + 1) n with
      | none => rw [hr] at h; simp at h
      | some r =>
        rw [hr] at h
        simp at h
        subst h
        obtain ⟨hl, hv⟩ := ldN_spec c n (off + 1) r hr
        refine ⟨by simp [hl], fun j u hj => ?_⟩
        cases j with
        | zero => simp at hj; subst hj; exact hc
        | succ j => simp at hj; have := hv j u hj; rwa [show off + (j + 1) = off + 1 + j by omega]
theorem stN_spec : ∀ (vs : List Value) (c : Tr Value) (off : Nat) (c' : Tr Value), stN c off vs = some c' →
    (∀ v ∈ vs, single v = true) ∧ (∀ j, j < vs.length → (c.get (off + j)).isSome) ∧ (∀ i, c'.get i = if off ≤ i ∧ i < off + vs.length then vs[i - off]? else c.get i)
  | [], c, off, c', h => by simp [stN] at h; subst h; simp; intro i h1 h2; omega
  | v :: vs, c, off, c', h => by
    rw [stN] at h
    cases hs : single v with
    | false => rw [hs] at h; simp at h
    | true =>
      rw [hs] at h
      cases hc : c.get off with
      | none => rw [hc] at h; simp at h
      | some u =>
        rw [hc] at h
        obtain ⟨h1, h2, h3⟩ := stN_spec vs _ _ _ h
        refine ⟨fun x hx => ?_, fun j hj => ?_, fun i => ?_⟩
        · rcases List.mem_cons.1 hx with rfl | hx
          · exact hs
          · exact h1 x hx
        · cases j with
          | zero => simp [hc]
          | succ j =>
            have := h2 j (by simpa using hj)
            rw [Tr.get_put] at this
            rw [show off + (j + 1) = off + 1 + j by omega]
            by_cases e : off + 1 + j = off
            · omega
            · rwa [if_neg e] at this
        · rw [h3 i, Tr.get_put]
          by_cases hi : off + 1 ≤ i ∧ i < off + 1 + vs.length
          · rw [if_pos hi, if_pos (by simp; omega)]
            obtain ⟨k, hk⟩ : ∃ k, i - off = k + 1 := ⟨i - off - 1, by omega⟩
            rw [hk, show i - (off + 1) = k by omega]
            simp
          · rw [if_neg hi]
            by_cases e : i = off
            · subst e; rw [if_pos rfl, if_pos (by simp)]; simp
            · rw [if_neg e, if_neg (by simp; omega)]
end Go.AE
end
/- How an abstract value and heap stand for the model's. -/
section
set_option linter.all false
namespace Go.AE
variable {D : Prop} {P : Program}

/-- Where an abstract block lies. -/
structure Img where
  blk : Nat
  shift : Nat
  elem : TypeId
  rows : Nat
  grown : Bool
abbrev Ren := Nat → Option Img

inductive VR (P : Program) (ρ : Ren) : Value → Value → Prop
  | atom {v : Value} (h : atom v = true) : VR P ρ v v
  | ptr {b o : Nat} {m : Img} (h : ρ b = some m) : VR P ρ (.pointer (some ⟨b, o, none⟩)) (.pointer (some ⟨m.blk, o + m.shift, none⟩))
  | slice {b o n c c' s : Nat} {m : Img} (h : ρ b = some m) (hn : n ≤ c) (hc : c ≤ c') (hx : c = c' ∨ (m.grown = true ∧ sizeOf' P m.elem = some s ∧ o + m.shift + c' * s ≤ m.rows)) :
      VR P ρ (.slice (some ⟨b, o, none⟩) n c) (.slice (some ⟨m.blk, o + m.shift, none⟩) n c')
  | tail {b o : Nat} {m : Img} {a' : Addr} (h : ρ b = some m) (hg : m.grown = true) : VR P ρ (.slice (some ⟨b, o, none⟩) 0 0) (.slice (some a') 0 0)
  | empty {a a' : Addr} {k : Nat} (h : a.spot = some k) : VR P ρ (.slice (some a) 0 0) (.slice (some a') 0 0)
  | map {b : Nat} {m : Img} (h : ρ b = some m) : VR P ρ (.map (some b)) (.map (some m.blk))
  | func {fn : Fn} {x x' y y' : Array Value} (hx : x.size = x'.size) (hxv : ∀ (i : Nat) v v', x[i]? = some v → x'[i]? = some v' → VR P ρ v v')
      (hy : y.size = y'.size) (hyv : ∀ (i : Nat) v v', y[i]? = some v → y'[i]? = some v' → VR P ρ v v') : VR P ρ (.func fn x y) (.func fn x' y')
  | iface {t : TypeId} {v v' : Value} (h : VR P ρ v v') : VR P ρ (.iface t v) (.iface t v')
  | agg {x x' : Array Value} (hx : x.size = x'.size) (hxv : ∀ (i : Nat) v v', x[i]? = some v → x'[i]? = some v' → VR P ρ v v') : VR P ρ (.agg x) (.agg x')
  | tuple {x x' : Array Value} (hx : x.size = x'.size) (hxv : ∀ (i : Nat) v v', x[i]? = some v → x'[i]? = some v' → VR P ρ v v') : VR P ρ (.tuple x) (.tuple x')

/-- Rows of values. -/
structure LR (P : Program) (ρ : Ren) (x x' : List Value) : Prop where
  len : x.length = x'.length
  at_ : ∀ (i : Nat) v v', x[i]? = some v → x'[i]? = some v' → VR P ρ v v'

theorem LR.nil {ρ : Ren} : LR P ρ [] [] := ⟨rfl, fun i v v' h => by simp at h⟩
theorem LR.cons {ρ : Ren} {v v' : Value} {x x' : List Value} (h : VR P ρ v v') (hs : LR P ρ x x') : LR P ρ (v :: x) (v' :: x') := by
  refine ⟨by simp [hs.len], fun i u u' hu hu' => ?_⟩
  cases i with
  | zero => simp at hu hu'; subst hu; subst hu'; exact h
  | succ i => simp at hu hu'; exact hs.at_ i u u' hu hu'
theorem LR.cons_inv {ρ : Ren} {v : Value} {x y : List Value} (h : LR P ρ (v :: x) y) : ∃ v' x', y = v' :: x' ∧ VR P ρ v v' ∧ LR P ρ x x' := by
  cases y with
  | nil => have := h.len; simp at this
  | cons v' x' =>
    refine ⟨v', x', rfl, h.at_ 0 v v' (by simp) (by simp), by have := h.len; simpa using this, fun i u u' hu hu' => h.at_ (i + 1) u u' (by simpa using hu) (by simpa using hu')⟩
theorem LR.nil_inv {ρ : Ren} {y : List Value} (h : LR P ρ [] y) : y = [] := by have := h.len; simp at this; exact List.eq_nil_of_length_eq_zero this.symm
theorem LR.append {ρ : Ren} {x x' y y' : List Value} (h : LR P ρ x x') (k : LR P ρ y y') : LR P ρ (x ++ y) (x' ++ y') := by
  induction x generalizing x' with
  | nil => rw [h.nil_inv]; exact k
  | cons v x ih => obtain ⟨v', r, rfl, hv, hr⟩ := h.cons_inv; exact .cons hv (ih hr)
theorem LR.get {ρ : Ren} {x x' : List Value} (h : LR P ρ x x') {i : Nat} {v : Value} (hv : x[i]? = some v) : ∃ v', x'[i]? = some v' ∧ VR P ρ v v' := by
  have hi : i < x'.length := by rw [← h.len]; exact (List.getElem?_eq_some_iff.1 hv).1
  exact ⟨x'[i], List.getElem?_eq_getElem hi, h.at_ i v _ hv (List.getElem?_eq_getElem hi)⟩
theorem LR.get' {ρ : Ren} {x x' : List Value} (h : LR P ρ x x') {i : Nat} {v' : Value} (hv : x'[i]? = some v') : ∃ v, x[i]? = some v ∧ VR P ρ v v' := by
  have hi : i < x.length := by rw [h.len]; exact (List.getElem?_eq_some_iff.1 hv).1
  exact ⟨x[i], List.getElem?_eq_getElem hi, h.at_ i _ v' (List.getElem?_eq_getElem hi) hv⟩
theorem LR.of {ρ : Ren} {x x' : List Value} (hl : x.length = x'.length) (h : ∀ (i : Nat) v, x[i]? = some v → ∃ v', x'[i]? = some v' ∧ VR P ρ v v') : LR P ρ x x' :=
  ⟨hl, fun i v v' hv hv' => by obtain ⟨u, hu, hr⟩ := h i v hv; rw [hv'] at hu; cases hu; exact hr⟩
theorem LR.take {ρ : Ren} {x x' : List Value} (h : LR P ρ x x') (n : Nat) : LR P ρ (x.take n) (x'.take n) := by
  refine ⟨by simp [h.len], fun i v v' hv hv' => ?_⟩
  rw [List.getElem?_take] at hv hv'
  split at hv <;> simp_all
  exact h.at_ i v v' hv hv'
theorem LR.drop {ρ : Ren} {x x' : List Value} (h : LR P ρ x x') (n : Nat) : LR P ρ (x.drop n) (x'.drop n) := by
  refine ⟨by simp [h.len], fun i v v' hv hv' => ?_⟩
  rw [List.getElem?_drop] at hv hv'
  exact h.at_ _ v v' hv hv'
theorem LR.map {ρ : Ren} {α : Type} {f g : α → Value} {l : List α} (h : ∀ a ∈ l, VR P ρ (f a) (g a)) : LR P ρ (l.map f) (l.map g) := by
  refine ⟨by simp, fun i v v' hv hv' => ?_⟩
  rw [List.getElem?_map] at hv hv'
  cases ha : l[i]? with
  | none => rw [ha] at hv; simp at hv
  | some a => rw [ha] at hv hv'; simp at hv hv'; subst hv; subst hv'; exact h a (List.mem_of_getElem? ha)
theorem VR.agg_iff {ρ : Ren} {x x' : Array Value} (h : LR P ρ x.toList x'.toList) : VR P ρ (.agg x) (.agg x') :=
  .agg (by have := h.len; simpa using this) (fun i v v' hv hv' => h.at_ i v v' (by simpa using hv) (by simpa using hv'))
theorem VR.tuple_iff {ρ : Ren} {x x' : Array Value} (h : LR P ρ x.toList x'.toList) : VR P ρ (.tuple x) (.tuple x') :=
  .tuple (by have := h.len; simpa using this) (fun i v v' hv hv' => h.at_ i v v' (by simpa using hv) (by simpa using hv'))
theorem VR.func_iff {ρ : Ren} {fn : Fn} {x x' y y' : Array Value} (h : LR P ρ x.toList x'.toList) (k : LR P ρ y.toList y'.toList) : VR P ρ (.func fn x y) (.func fn x' y') :=
  .func (by have := h.len; simpa using this) (fun i v v' hv hv' => h.at_ i v v' (by simpa using hv) (by simpa using hv')) (by have := k.len; simpa using this) (fun i v v' hv hv' => k.at_ i v v' (by simpa using hv) (by simpa using hv'))
theorem VR.agg_inv {ρ : Ren} {x : Array Value} {v : Value} (h : VR P ρ (.agg x) v) : ∃ x', v = .agg x' ∧ LR P ρ x.toList x'.toList := by
  cases h with
  | atom h => simp [AE.atom] at h
  | agg hx hxv => exact ⟨_, rfl, by simpa using hx, fun i v v' hv hv' => hxv i v v' (by simpa using hv) (by simpa using hv')⟩
theorem VR.tuple_inv {ρ : Ren} {x : Array Value} {v : Value} (h : VR P ρ (.tuple x) v) : ∃ x', v = .tuple x' ∧ LR P ρ x.toList x'.toList := by
  cases h with
  | atom h => simp [AE.atom] at h
  | tuple hx hxv => exact ⟨_, rfl, by simpa using hx, fun i v v' hv hv' => hxv i v v' (by simpa using hv) (by simpa using hv')⟩
theorem VR.func_inv {ρ : Ren} {fn : Fn} {x y : Array Value} {v : Value} (h : VR P ρ (.func fn x y) v) : ∃ x' y', v = .func fn x' y' ∧ LR P ρ x.toList x'.toList ∧ LR P ρ y.toList y'.toList := by
  cases h with
  | atom h => simp [AE.atom] at h
  | func hx hxv hy hyv => exact ⟨_, _, rfl, ⟨by simpa using hx, fun i v v' hv hv' => hxv i v v' (by simpa using hv) (by simpa using hv')⟩, by simpa using hy, fun i v v' hv hv' => hyv i v v' (by simpa using hv) (by simpa using hv')⟩
theorem VR.iface_inv {ρ : Ren} {t : TypeId} {x v : Value} (h : VR P ρ (.iface t x) v) : ∃ x', v = .iface t x' ∧ VR P ρ x x' := by
  cases h with
  | atom h => simp [AE.atom] at h
  | iface h => exact ⟨_, rfl, h⟩
theorem VR.ptr_inv {ρ : Ren} {a : Addr} {v : Value} (h : VR P ρ (.pointer (some a)) v) : ∃ m, ρ a.block = some m ∧ a.spot = none ∧ v = .pointer (some ⟨m.blk, a.off + m.shift, none⟩) := by
  cases h with
  | atom h => simp [AE.atom] at h
  | ptr h => exact ⟨_, h, rfl, rfl⟩
theorem VR.map_inv {ρ : Ren} {b : Nat} {v : Value} (h : VR P ρ (.map (some b)) v) : ∃ m, ρ b = some m ∧ v = .map (some m.blk) := by
  cases h with
  | atom h => simp [AE.atom] at h
  | map h => exact ⟨_, h, rfl⟩
theorem VR.atom_inv {ρ : Ren} {x v : Value} (ha : AE.atom x = true) (h : VR P ρ x v) : v = x := by
  cases h with
  | atom h => rfl
  | _ => simp [AE.atom] at ha
theorem VR.undef {ρ : Ren} : VR P ρ undef undef := .tuple rfl fun i v v' h => by simp at h
theorem VR.bool_inv {ρ : Ren} {t : Bool} {v : Value} (h : VR P ρ (.bool t) v) : v = .bool t := h.atom_inv rfl
theorem VR.int_inv {ρ : Ren} {k : IntKind} {n : Int} {v : Value} (h : VR P ρ (.int k n) v) : v = .int k n := h.atom_inv rfl
theorem VR.string_inv {ρ : Ren} {s : ByteArray} {v : Value} (h : VR P ρ (.string s) v) : v = .string s := h.atom_inv rfl
/-- A slice with an address. -/
theorem VR.slice_inv {ρ : Ren} {a : Addr} {n c : Nat} {v : Value} (h : VR P ρ (.slice (some a) n c) v) :
    (∃ m c' s, a.spot = none ∧ ρ a.block = some m ∧ n ≤ c ∧ c ≤ c' ∧ (c = c' ∨ (m.grown = true ∧ sizeOf' P m.elem = some s ∧ a.off + m.shift + c' * s ≤ m.rows)) ∧ v = .slice (some ⟨m.blk, a.off + m.shift, none⟩) n c') ∨
    (∃ m a', a.spot = none ∧ ρ a.block = some m ∧ m.grown = true ∧ n = 0 ∧ c = 0 ∧ v = .slice (some a') 0 0) ∨
    (∃ k a', a.spot = some k ∧ n = 0 ∧ c = 0 ∧ v = .slice (some a') 0 0) := by
  cases h with
  | atom h => simp [AE.atom] at h
  | @slice b o _ _ c' s m h hn hc hx => exact .inl ⟨m, c', s, rfl, h, hn, hc, hx, rfl⟩
  | tail h hg => exact .inr (.inl ⟨_, _, rfl, h, hg, rfl, rfl, rfl⟩)
  | empty h => exact .inr (.inr ⟨_, _, h, rfl, rfl, rfl⟩)

/-- One naming goes further than another. -/
def Ren.le (ρ ρ' : Ren) : Prop := ∀ b m, ρ b = some m → ρ' b = some m
theorem Ren.le_refl (ρ : Ren) : ρ.le ρ := fun _ _ h => h
theorem Ren.le_trans {ρ ρ' ρ'' : Ren} (h : ρ.le ρ') (k : ρ'.le ρ'') : ρ.le ρ'' := fun b m hb => k b m (h b m hb)
theorem VR.mono {ρ ρ' : Ren} (hle : ρ.le ρ') {v v' : Value} (h : VR P ρ v v') : VR P ρ' v v' := by
  induction h with
  | atom h => exact .atom h
  | ptr h => exact .ptr (hle _ _ h)
  | slice h hn hc hx => exact .slice (hle _ _ h) hn hc hx
  | tail h hg => exact .tail (hle _ _ h) hg
  | empty h => exact .empty h
  | map h => exact .map (hle _ _ h)
  | func hx hxv hy hyv ihx ihy => exact .func hx ihx hy ihy
  | iface h ih => exact .iface ih
  | agg hx hxv ih => exact .agg hx ih
  | tuple hx hxv ih => exact .tuple hx ih
theorem LR.mono {ρ ρ' : Ren} (hle : ρ.le ρ') {x x' : List Value} (h : LR P ρ x x') : LR P ρ' x x' := ⟨h.len, fun i v v' a b => (h.at_ i v v' a b).mono hle⟩

theorem plain_list {ρ : Ren} {n : Nat} (ih : ∀ v, plainF n v = true → VR P ρ v v) (cs : Array Value) (h : cs.toList.all (plainF n) = true) : LR P ρ cs.toList cs.toList :=
  ⟨rfl, fun i v v' hv hv' => by rw [hv] at hv'; cases hv'; exact ih v (List.all_eq_true.1 h v (List.mem_of_getElem? hv))⟩
theorem VR.of_plainF {ρ : Ren} : ∀ (n : Nat) (v : Value), plainF n v = true → VR P ρ v v
  | 0, _, h => by simp [plainF] at h
  | n + 1, v, h => by
    have ih := VR.of_plainF (ρ := ρ) n
    cases v with
    | agg cs => exact VR.agg_iff (plain_list ih cs (by simpa [plainF] using h))
    | tuple cs => exact VR.tuple_iff (plain_list ih cs (by simpa [plainF] using h))
    | func fn x y => simp only [plainF, Bool.and_eq_true] at h; exact VR.func_iff (plain_list ih x h.1) (plain_list ih y h.2)
    | iface t x => exact .iface (ih x (by simpa [plainF] using h))
    | pointer a => cases a with | none => exact .atom rfl | some a => simp [plainF] at h
    | slice a k c => cases a with | none => exact .atom rfl | some a => simp [plainF] at h
    | map r => cases r with | none => exact .atom rfl | some a => simp [plainF] at h
    | chan r => simp [plainF] at h
    | _ => exact .atom rfl
theorem VR.of_plain {ρ : Ren} {v : Value} (h : plain v = true) : VR P ρ v v := VR.of_plainF 6 v h
theorem LR.eq_of {ρ : Ren} {x x' : List Value} (h : LR P ρ x x') (he : ∀ v v', v ∈ x → VR P ρ v v' → v' = v) : x' = x := by
  apply List.ext_getElem?
  intro i
  cases hx : x[i]? with
  | none => have := List.getElem?_eq_none_iff.1 hx; exact List.getElem?_eq_none (by rw [← h.len]; exact this)
  | some v => obtain ⟨v', hv', hr⟩ := h.get hx; rw [hv', he v v' (List.mem_of_getElem? hx) hr]
theorem VR.eq_of_plainF {ρ : Ren} : ∀ (n : Nat) (v v' : Value), plainF n v = true → VR P ρ v v' → v' = v
  | 0, _, _, h, _ => by simp [plainF] at h
  | n + 1, v, v', h, hr => by
    have ih := VR.eq_of_plainF (ρ := ρ) n
    have il : ∀ (cs : Array Value), cs.toList.all (plainF n) = true → ∀ {cs' : Array Value}, LR P ρ cs.toList cs'.toList → cs' = cs := fun cs hc cs' hl =>
      Array.toList_inj.1 (hl.eq_of fun u u' hu => ih u u' (List.all_eq_true.1 hc u hu))
    cases v with
    | agg cs => obtain ⟨x', rfl, hl⟩ := hr.agg_inv; rw [il cs (by simpa [plainF] using h) hl]
    | tuple cs => obtain ⟨x', rfl, hl⟩ := hr.tuple_inv; rw [il cs (by simpa [plainF] using h) hl]
    | func fn x y => simp only [plainF, Bool.and_eq_true] at h; obtain ⟨x', y', rfl, hx, hy⟩ := hr.func_inv; rw [il x h.1 hx, il y h.2 hy]
    | iface t x => obtain ⟨x', rfl, hx⟩ := hr.iface_inv; rw [ih x x' (by simpa [plainF] using h) hx]
    | pointer a => cases a with | none => exact hr.atom_inv rfl | some a => simp [plainF] at h
    | slice a k c => cases a with | none => exact hr.atom_inv rfl | some a => simp [plainF] at h
    | map r => cases r with | none => exact hr.atom_inv rfl | some a => simp [plainF] at h
    | chan r => simp [plainF] at h
    | _ => exact hr.atom_inv rfl
theorem VR.eq_of_plain {ρ : Ren} {v v' : Value} (h : plain v = true) (hr : VR P ρ v v') : v' = v := VR.eq_of_plainF 6 v v' h hr

/-- A value has as many cells as what stands for it. -/
theorem VR.cells {ρ : Ren} {v v' : Value} (h : VR P ρ v v') : LR P ρ v.cells.toList v'.cells.toList := by
  have one : ∀ {v v' : Value}, VR P ρ v v' → LR P ρ [v] [v'] := fun h => .cons h .nil
  cases h with
  | agg hx hxv => exact ⟨by simpa [Value.cells] using hx, fun i v v' hv hv' => hxv i v v' (by simpa [Value.cells] using hv) (by simpa [Value.cells] using hv')⟩
  | @atom v h => cases v <;> first | (simp [AE.atom] at h; done) | exact one (.atom h)
  | ptr h => exact one (.ptr h)
  | slice h hn hc hx => exact one (.slice h hn hc hx)
  | tail h hg => exact one (.tail h hg)
  | empty h => exact one (.empty h)
  | map h => exact one (.map h)
  | func hx hxv hy hyv => exact one (.func hx hxv hy hyv)
  | iface h => exact one (.iface h)
  | tuple hx hxv => exact one (.tuple hx hxv)
theorem VR.single {ρ : Ren} {v v' : Value} (h : VR P ρ v v') : v'.oneCell' = single v := by
  cases h with
  | @atom v h => cases v <;> first | rfl | (simp [AE.atom] at h; done)
  | _ => rfl

/-- The world's order of an entry. -/
structure ER (P : Program) (ρ : Ren) (e e' : MapEntry) : Prop where
  key : VR P ρ e.key e'.key
  val : VR P ρ e.val e'.val
  born : e'.born = e.born
structure ELR (P : Program) (ρ : Ren) (x x' : List MapEntry) : Prop where
  len : x.length = x'.length
  at_ : ∀ (i : Nat) e e', x[i]? = some e → x'[i]? = some e' → ER P ρ e e'

def thaw (fz : Nat × Nat) (rows : Nat) : Prop := fz = (0, 0) ∨ (rows ≤ fz.1 ∧ fz.1 < fz.2)

def AObj.ro : AObj → Bool
  | .cells _ _ _ _ ro => ro
  | .map _ _ ro => ro
  | _ => false

/-- An abstract object and its block. -/
def ObjR (P : Program) (ρ : Ren) (w : World) (m : Img) : AObj → Prop
  | .cells _ c e g ro => m.elem = e ∧ m.grown = g ∧ ∃ c' fz, w.heap[m.blk]? = some (.cells c' e fz) ∧ c'.size = m.rows ∧ (ro = false → thaw fz m.rows ∧ (g = false → m.shift = 0)) ∧ ∀ i v, c.get i = some v → ∃ v', c'[i + m.shift]? = some v' ∧ VR P ρ v v'
  | .map es clock _ => m.shift = 0 ∧ ∃ es', w.heap[m.blk]? = some (.map es' clock) ∧ ELR P ρ es es'.toList
  | .strIter s pos => m.shift = 0 ∧ w.heap[m.blk]? = some (.stringIter s pos)
  | .mapIter r since seen stepped => m.shift = 0 ∧ ∃ r', w.heap[m.blk]? = some (.mapIter r' since seen.toArray stepped) ∧ VR P ρ (.map r) (.map r')

structure Rel (P : Program) (ρ : Ren) (σ : AHeap) (w : World) : Prop where
  dom : ∀ b, σ.next ≤ b → ρ b = none
  lt : ∀ b m, ρ b = some m → m.blk < w.heap.size
  obj : ∀ b o, σ.get b = some o → ∃ m, ρ b = some m ∧ ObjR P ρ w m o
  inj : ∀ b b' o o' m m', σ.get b = some o → σ.get b' = some o' → ρ b = some m → ρ b' = some m' → o.ro = false → m.blk = m'.blk → b = b'

/-- Is block k one that the abstract heap may write? -/
def Owns (ρ : Ren) (σ : AHeap) (k : Nat) : Prop := ∃ b o m, σ.get b = some o ∧ o.ro = false ∧ ρ b = some m ∧ m.blk = k

structure Ext (D : Prop) (ρ : Ren) (σ : AHeap) (w : World) (ρ' : Ren) (σ' : AHeap) (w' : World) : Prop where
  ren : ρ.le ρ'
  next : σ.next ≤ σ'.next
  size : w.heap.size ≤ w'.heap.size
  os : w'.os = w.os
  tape : w'.tape = w.tape
  output : w'.output = w.output
  frame : ∀ k, k < w.heap.size → ¬ Owns ρ σ k → w'.heap[k]? = w.heap[k]?
  fresh : ∀ k, k < w.heap.size → Owns ρ' σ' k → Owns ρ σ k
  old : ∀ b, b < σ.next → ρ' b = ρ b
  ro : ∀ b o, σ'.get b = some o → o.ro = true → σ.get b = some o
  drawn : D → w.drawn ≤ w'.drawn

theorem Ext.refl (ρ : Ren) (σ : AHeap) (w : World) : Ext D ρ σ w ρ σ w := ⟨Ren.le_refl _, Nat.le_refl _, Nat.le_refl _, rfl, rfl, rfl, fun _ _ _ => rfl, fun _ _ h => h, fun _ _ => rfl, fun _ _ h _ => h, fun _ => Nat.le_refl _⟩
theorem Ext.trans {ρ ρ' ρ'' : Ren} {σ σ' σ'' : AHeap} {w w' w'' : World} (h : Ext D ρ σ w ρ' σ' w') (k : Ext D ρ' σ' w' ρ'' σ'' w'') : Ext D ρ σ w ρ'' σ'' w'' :=
  ⟨Ren.le_trans h.ren k.ren, Nat.le_trans h.next k.next, Nat.le_trans h.size k.size, k.os.trans h.os, k.tape.trans h.tape, k.output.trans h.output,
    fun i hi ho => (k.frame i (Nat.lt_of_lt_of_le hi h.size) (fun c => ho (h.fresh i hi c))).trans (h.frame i hi ho),
    fun i hi c => h.fresh i hi (k.fresh i (Nat.lt_of_lt_of_le hi h.size) c), fun b hb => (k.old b (Nat.lt_of_lt_of_le hb h.next)).trans (h.old b hb), fun b o hg hr => h.ro b o (k.ro b o hg hr) hr, fun d => Nat.le_trans (h.drawn d) (k.drawn d)⟩
end Go.AE
end
/- The steps of memory: reading, writing, making. -/
section
set_option linter.all false
namespace Go.AE
variable {D : Prop} {P : Program} {ρ : Ren} {σ : AHeap} {w : World}

theorem ObjR.of_heap {w' : World} {m : Img} {o : AObj} (h : w'.heap[m.blk]? = w.heap[m.blk]?) (k : ObjR P ρ w m o) : ObjR P ρ w' m o := by
  cases o <;> simp only [ObjR, h] at k ⊢ <;> exact k
theorem ELR.mono {ρ' : Ren} (hle : ρ.le ρ') {x x' : List MapEntry} (h : ELR P ρ x x') : ELR P ρ' x x' :=
  ⟨h.len, fun i e e' a b => let k := h.at_ i e e' a b; ⟨k.key.mono hle, k.val.mono hle, k.born⟩⟩
theorem ObjR.mono {ρ' : Ren} (hle : ρ.le ρ') {m : Img} {o : AObj} (k : ObjR P ρ w m o) : ObjR P ρ' w m o := by
  cases o with
  | cells n c e g ro => obtain ⟨h1, h2, c', fz, h3, h4, h5, h6⟩ := k; exact ⟨h1, h2, c', fz, h3, h4, h5, fun i v hv => by obtain ⟨v', a, b⟩ := h6 i v hv; exact ⟨v', a, b.mono hle⟩⟩
  | map es cl ro => obtain ⟨h1, es', h2, h3⟩ := k; exact ⟨h1, es', h2, h3.mono hle⟩
  | strIter s p => exact k
  | mapIter r a b c => obtain ⟨h1, r', h2, h3⟩ := k; exact ⟨h1, r', h2, h3.mono hle⟩

/-- The same heap in another world. -/
theorem Rel.of_heap {w' : World} (h : Rel P ρ σ w) (he : w'.heap = w.heap) : Rel P ρ σ w' :=
  ⟨h.dom, fun b m hb => by rw [he]; exact h.lt b m hb, fun b o hb => by obtain ⟨m, hm, ho⟩ := h.obj b o hb; exact ⟨m, hm, ho.of_heap (by rw [he])⟩, h.inj⟩
theorem Ext.of_heap {w' : World} (he : w'.heap = w.heap) (h1 : w'.os = w.os) (h2 : w'.tape = w.tape) (h3 : w'.output = w.output) (h4 : w.drawn ≤ w'.drawn) : Ext D ρ σ w ρ σ w' :=
  ⟨Ren.le_refl _, Nat.le_refl _, by rw [he]; exact Nat.le_refl _, h1, h2, h3, fun k _ _ => by rw [he], fun _ _ h => h, fun _ _ => rfl, fun _ _ h _ => h, fun _ => h4⟩

theorem Rel.drop (h : Rel P ρ σ w) (b : Nat) : Rel P ρ (σ.drop b) w := by
  have sub : ∀ {b' o}, (σ.drop b).get b' = some o → σ.get b' = some o := fun {b' o} e => by
    rw [AHeap.get_drop] at e; split at e
    · cases e
    · exact e
  exact ⟨h.dom, h.lt, fun b' o e => h.obj b' o (sub e), fun b1 b2 o1 o2 m1 m2 e1 e2 => h.inj b1 b2 o1 o2 m1 m2 (sub e1) (sub e2)⟩
theorem Ext.drop (b : Nat) : Ext D ρ σ w ρ (σ.drop b) w :=
  ⟨Ren.le_refl _, Nat.le_refl _, Nat.le_refl _, rfl, rfl, rfl, fun _ _ _ => rfl, fun k _ ⟨b', o, m, hg, hr, hm, hk⟩ => ⟨b', o, m, by
    rw [AHeap.get_drop] at hg; split at hg
    · cases hg
    · exact hg, hr, hm, hk⟩, fun _ _ => rfl, fun b' o hg _ => by
    rw [AHeap.get_drop] at hg; split at hg
    · cases hg
    · exact hg, fun _ => Nat.le_refl _⟩

theorem Rel.upd (h : Rel P ρ σ w) {b : Nat} {o o' : AObj} {m : Img} (hg : σ.get b = some o) (hro : o.ro = false) (hm : ρ b = some m) {w' : World} (hsz : w'.heap.size = w.heap.size)
    (hoth : ∀ k, k ≠ m.blk → w'.heap[k]? = w.heap[k]?) (ho : ObjR P ρ w' m o') (hro' : o'.ro = false) : Rel P ρ (σ.set b o') w' := by
  refine ⟨h.dom, fun b m hb => by rw [hsz]; exact h.lt b m hb, fun b' o2 e => ?_, fun b1 b2 o1 o2 m1 m2 e1 e2 k1 k2 hr he => ?_⟩
  · rw [AHeap.get_set] at e
    split at e
    · rename_i hb; subst hb; cases e; exact ⟨m, hm, ho⟩
    · rename_i hb
      obtain ⟨m2, hm2, ho2⟩ := h.obj b' o2 e
      refine ⟨m2, hm2, ho2.of_heap (hoth _ fun he => hb ?_)⟩
      exact (h.inj b b' o o2 m m2 hg e hm hm2 hro he.symm).symm
  · rw [AHeap.get_set] at e1 e2
    split at e1 <;> split at e2
    · rename_i a c; rw [a, c]
    · rename_i a c; subst a; exact h.inj _ _ o o2 m1 m2 hg e2 k1 k2 hro he
    · rename_i a c; subst c; exact h.inj _ _ o1 o m1 m2 e1 hg k1 k2 hr he
    · exact h.inj _ _ o1 o2 m1 m2 e1 e2 k1 k2 hr he
theorem Ext.upd {b : Nat} {o o' : AObj} {m : Img} (hg : σ.get b = some o) (hro : o.ro = false) (hm : ρ b = some m) {w' : World} (hsz : w'.heap.size = w.heap.size)
    (hoth : ∀ k, k ≠ m.blk → w'.heap[k]? = w.heap[k]?) (h1 : w'.os = w.os) (h2 : w'.tape = w.tape) (h3 : w'.output = w.output) (hro' : o'.ro = false) (h4 : w.drawn ≤ w'.drawn) : Ext D ρ σ w ρ (σ.set b o') w' := by
  refine ⟨Ren.le_refl _, Nat.le_refl _, by rw [hsz]; exact Nat.le_refl _, h1, h2, h3, fun k _ hn => hoth k fun e => hn ⟨b, o, m, hg, hro, hm, e.symm⟩, fun k _ ⟨b', o2, m2, e, hr, hm2, hk⟩ => ?_, fun _ _ => rfl, fun b' o2 e hr => ?_, fun _ => h4⟩
  · rw [AHeap.get_set] at e
    split at e
    · rename_i hb; subst hb; exact ⟨_, o, m2, hg, hro, hm2, hk⟩
    · exact ⟨b', o2, m2, e, hr, hm2, hk⟩
  · rw [AHeap.get_set] at e
    split at e
    · cases e; rw [hro'] at hr; cases hr
    · exact e

def Ren.add (ρ : Ren) (b : Nat) (m : Img) : Ren := fun b' => if b' = b then some m else ρ b'
theorem Ren.le_add {b : Nat} {m : Img} (h : ρ b = none) : ρ.le (ρ.add b m) := fun b' m' hb => by
  unfold Ren.add; split
  · rename_i e; subst e; rw [h] at hb; cases hb
  · exact hb
theorem Ren.add_same {b : Nat} {m : Img} : (ρ.add b m) b = some m := by simp [Ren.add]

theorem Rel.new (h : Rel P ρ σ w) {o : AObj} {c : Obj} {m : Img} (hblk : m.blk = w.heap.size) (ho : ObjR P (ρ.add σ.next m) (w.alloc c) m o) : Rel P (ρ.add σ.next m) (σ.new o).2 (w.alloc c) := by
  have hfree : ρ σ.next = none := h.dom _ (Nat.le_refl _)
  have hle := Ren.le_add (m := m) hfree
  have old : ∀ k, k < w.heap.size → (w.alloc c).heap[k]? = w.heap[k]? := fun k hk => by
    simp only [World.alloc, Array.getElem?_push]
    rw [if_neg (by omega)]
  refine ⟨fun b hb => ?_, fun b m' hb => ?_, fun b o' e => ?_, fun b1 b2 o1 o2 m1 m2 e1 e2 k1 k2 hr he => ?_⟩
  · simp only [AHeap.next_new] at hb
    unfold Ren.add
    rw [if_neg (by omega)]
    exact h.dom b (by omega)
  · simp only [World.size_alloc]
    unfold Ren.add at hb
    split at hb
    · cases hb; omega
    · have := h.lt b m' hb; omega
  · rw [AHeap.get_new] at e
    split at e
    · rename_i hb; subst hb; cases e; exact ⟨m, Ren.add_same, ho⟩
    · obtain ⟨m2, hm2, ho2⟩ := h.obj b o' e
      exact ⟨m2, hle _ _ hm2, (ho2.of_heap (old _ (h.lt b m2 hm2))).mono hle⟩
  · rw [AHeap.get_new] at e1 e2
    unfold Ren.add at k1 k2
    split at e1 <;> split at e2
    · rename_i a b; rw [a, b]
    · rename_i a b; rw [if_pos a] at k1; rw [if_neg b] at k2; cases k1; have := h.lt b2 m2 k2; omega
    · rename_i a b; rw [if_neg a] at k1; rw [if_pos b] at k2; cases k2; have := h.lt b1 m1 k1; omega
    · rename_i a b; rw [if_neg a] at k1; rw [if_neg b] at k2; exact h.inj b1 b2 o1 o2 m1 m2 e1 e2 k1 k2 hr he
theorem Ext.new (h : Rel P ρ σ w) {o : AObj} {c : Obj} {m : Img} (hro : o.ro = false) (hblk : m.blk = w.heap.size) : Ext D ρ σ w (ρ.add σ.next m) (σ.new o).2 (w.alloc c) := by
  refine ⟨Ren.le_add (h.dom _ (Nat.le_refl _)), by simp, by simp, rfl, rfl, rfl, fun k hk _ => ?_, fun k hk ⟨b, o', m', e, hr, hm, hb⟩ => ?_, fun b hb => by unfold Ren.add; rw [if_neg (by omega)], fun b o' e hr => by
    rw [AHeap.get_new] at e
    split at e
    · cases e; rw [hro] at hr; cases hr
    · exact e, fun _ => Nat.le_refl _⟩
  · simp only [World.alloc, Array.getElem?_push]
    rw [if_neg (by omega)]
  · rw [AHeap.get_new] at e
    unfold Ren.add at hm
    split at e
    · rename_i a; rw [if_pos a] at hm; cases hm; omega
    · rename_i a; rw [if_neg a] at hm; exact ⟨b, o', m', e, hr, hm, hb⟩

/-- A row that grew in place: its abstract block is dropped, a new one stands for the same place. -/
theorem Rel.regrow (h : Rel P ρ σ w) {b : Nat} {o o' : AObj} {m m' : Img} (hg : σ.get b = some o) (hro : o.ro = false) (hm : ρ b = some m) (hblk : m'.blk = m.blk) {w' : World} (hsz : w'.heap.size = w.heap.size)
    (hoth : ∀ k, k ≠ m.blk → w'.heap[k]? = w.heap[k]?) (ho : ObjR P (ρ.add σ.next m') w' m' o') : Rel P (ρ.add σ.next m') ((σ.drop b).new o').2 w' := by
  have hfree : ρ σ.next = none := h.dom _ (Nat.le_refl _)
  have hle := Ren.le_add (m := m') hfree
  have sub : ∀ {b' o2}, (σ.drop b).get b' = some o2 → σ.get b' = some o2 ∧ b' ≠ b := fun {b' o2} e => by
    rw [AHeap.get_drop] at e; split at e
    · cases e
    · rename_i hb; exact ⟨e, hb⟩
  refine ⟨fun b' hb => ?_, fun b' m2 hb => ?_, fun b' o2 e => ?_, fun b1 b2 o1 o2 m1 m2 e1 e2 k1 k2 hr he => ?_⟩
  · simp only [AHeap.next_new, AHeap.next_drop] at hb
    unfold Ren.add
    rw [if_neg (by omega)]
    exact h.dom b' (by omega)
  · rw [hsz]
    unfold Ren.add at hb
    split at hb
    · cases hb; rw [hblk]; exact h.lt b m hm
    · exact h.lt b' m2 hb
  · rw [AHeap.get_new] at e
    change (if b' = σ.next then some o' else (σ.drop b).get b') = some o2 at e
    split at e
    · rename_i hb; subst hb; cases e; exact ⟨m', Ren.add_same, ho⟩
    · obtain ⟨e, hne⟩ := sub e
      obtain ⟨m2, hm2, ho2⟩ := h.obj b' o2 e
      exact ⟨m2, hle _ _ hm2, (ho2.of_heap (hoth _ fun he => hne (h.inj b b' o o2 m m2 hg e hm hm2 hro he.symm).symm)).mono hle⟩
  · rw [AHeap.get_new] at e1 e2
    change (if b1 = σ.next then some o' else (σ.drop b).get b1) = some o1 at e1
    change (if b2 = σ.next then some o' else (σ.drop b).get b2) = some o2 at e2
    unfold Ren.add at k1 k2
    split at e1 <;> split at e2
    · rename_i a c; rw [a, c]
    · rename_i a c; rw [if_pos a] at k1; rw [if_neg c] at k2; cases k1; obtain ⟨e2, hne⟩ := sub e2; exact absurd (h.inj b b2 o o2 m m2 hg e2 hm k2 hro (hblk.symm.trans he)).symm hne
    · rename_i a c; rw [if_neg a] at k1; rw [if_pos c] at k2; cases k2; obtain ⟨e1, hne⟩ := sub e1; exact absurd (h.inj b1 b o1 o m1 m e1 hg k1 hm hr (he.trans hblk)) hne
    · rename_i a c; rw [if_neg a] at k1; rw [if_neg c] at k2; exact h.inj b1 b2 o1 o2 m1 m2 (sub e1).1 (sub e2).1 k1 k2 hr he
theorem Ext.regrow (h : Rel P ρ σ w) {b : Nat} {o o' : AObj} {m m' : Img} (hro' : o'.ro = false) (hg : σ.get b = some o) (hro : o.ro = false) (hm : ρ b = some m) (hblk : m'.blk = m.blk) {w' : World} (hsz : w'.heap.size = w.heap.size)
    (hoth : ∀ k, k ≠ m.blk → w'.heap[k]? = w.heap[k]?) (h1 : w'.os = w.os) (h2 : w'.tape = w.tape) (h3 : w'.output = w.output) (h4 : w.drawn ≤ w'.drawn) : Ext D ρ σ w (ρ.add σ.next m') ((σ.drop b).new o').2 w' := by
  refine ⟨Ren.le_add (h.dom _ (Nat.le_refl _)), by simp, by rw [hsz]; exact Nat.le_refl _, h1, h2, h3, fun k _ hn => hoth k fun e => hn ⟨b, o, m, hg, hro, hm, e.symm⟩, fun k hk ⟨b', o2, m2, e, hr, hm2, hb⟩ => ?_, fun b' hb => by unfold Ren.add; rw [if_neg (by omega)], fun b' o2 e hr => by
    rw [AHeap.get_new] at e
    change (if b' = σ.next then some o' else (σ.drop b).get b') = some o2 at e
    split at e
    · cases e; rw [hro'] at hr; cases hr
    · rw [AHeap.get_drop] at e
      split at e
      · cases e
      · exact e, fun _ => h4⟩
  rw [AHeap.get_new] at e
  change (if b' = σ.next then some o' else (σ.drop b).get b') = some o2 at e
  unfold Ren.add at hm2
  split at e
  · rename_i a; rw [if_pos a] at hm2; cases hm2; exact ⟨b, o, m, hg, hro, hm, hblk.symm.trans hb⟩
  · rename_i a; rw [if_neg a] at hm2
    rw [AHeap.get_drop] at e
    split at e
    · cases e
    · exact ⟨b', o2, m2, e, hr, hm2, hb⟩

/-! Reading. -/
theorem cell_of {c : Array Value} {e : TypeId} {fz : Nat × Nat} {k i : Nat} (h : w.heap[k]? = some (.cells c e fz)) : w.cell? ⟨k, i, none⟩ = c[i]? := by
  simp [World.cell?, h]
theorem Rel.cell (h : Rel P ρ σ w) {b n off : Nat} {c : Tr Value} {e : TypeId} {g ro : Bool} {v : Value} {m : Img} (hg : σ.get b = some (.cells n c e g ro)) (hv : c.get off = some v) (hm : ρ b = some m) :
    ∃ v', w.cell? ⟨m.blk, off + m.shift, none⟩ = some v' ∧ VR P ρ v v' := by
  obtain ⟨m2, hm2, _, _, c', fz, hh, _, _, hc⟩ := h.obj b _ hg
  rw [hm] at hm2; cases hm2
  obtain ⟨v', a, r⟩ := hc off v hv
  exact ⟨v', by rw [cell_of hh]; exact a, r⟩
theorem Rel.ldN (h : Rel P ρ σ w) {b n off k : Nat} {c : Tr Value} {e : TypeId} {g ro : Bool} {vs : List Value} {m : Img} (hg : σ.get b = some (.cells n c e g ro)) (hv : AE.ldN c off k = some vs) (hm : ρ b = some m) :
    ∃ vs' : List Value, LR P ρ vs vs' ∧ ∀ j v, vs'[j]? = some v → w.cell? ⟨m.blk, off + m.shift + j, none⟩ = some v := by
  obtain ⟨hl, hat⟩ := ldN_spec c k off vs hv
  have ex : ∀ j, j < k → ∃ u, w.cell? ⟨m.blk, off + m.shift + j, none⟩ = some u := fun j hj => by
    obtain ⟨v, hvj⟩ : ∃ v, vs[j]? = some v := ⟨vs[j]'(by omega), List.getElem?_eq_getElem (by omega)⟩
    obtain ⟨u, hu, _⟩ := h.cell hg (hat j v hvj) hm
    exact ⟨u, by rw [show off + m.shift + j = off + j + m.shift by omega]; exact hu⟩
  refine ⟨(List.range k).map fun j => (w.cell? ⟨m.blk, off + m.shift + j, none⟩).getD undef, ⟨by simp [hl], fun j v v' a b => ?_⟩, fun j v a => ?_⟩
  · obtain ⟨u, hu, hr⟩ := h.cell hg (hat j v a) hm
    have hj : j < k := by rw [← hl]; exact (List.getElem?_eq_some_iff.1 a).1
    rw [List.getElem?_map, List.getElem?_range hj] at b
    simp only [Option.map_some, Option.some.injEq] at b
    rw [show off + m.shift + j = off + j + m.shift by omega, hu] at b
    simp at b; subst b; exact hr
  · have hj : j < k := by have := (List.getElem?_eq_some_iff.1 a).1; simpa using this
    rw [List.getElem?_map, List.getElem?_range hj] at a
    simp only [Option.map_some, Option.some.injEq] at a
    obtain ⟨u, hu⟩ := ex j hj
    rw [hu] at a ⊢
    simp at a; rw [a]
theorem addr_add (k i j : Nat) : (⟨k, i, none⟩ : Addr).add j = ⟨k, i + j, none⟩ := by unfold Addr.add; split <;> simp_all
theorem run_loadCells' {k i : Nat} {vs : List Value} (h : ∀ j v, vs[j]? = some v → w.cell? ⟨k, i + j, none⟩ = some v) : (loadCells ⟨k, i, none⟩ vs.length).run P w = .ok vs.toArray w :=
  run_loadCells_list w _ vs fun j v hv => by rw [addr_add]; exact h j v hv
theorem Rel.ldCells (h : Rel P ρ σ w) {b off k : Nat} {vs : List Value} {m : Img} (hv : AE.ldCells σ b off k = some vs) (hm : ρ b = some m) :
    vs.length = k ∧ ∃ vs' : List Value, LR P ρ vs vs' ∧ ∀ j v, vs'[j]? = some v → w.cell? ⟨m.blk, off + m.shift + j, none⟩ = some v := by
  unfold AE.ldCells at hv
  split at hv
  · cases hv; exact ⟨rfl, [], .nil, fun j v h => by simp at h⟩
  · split at hv
    · rename_i hg; exact ⟨(ldN_spec _ _ _ _ hv).1, h.ldN hg hv hm⟩
    · cases hv
theorem info_size {t : TypeId} {n : Nat} (h : sizeOf' P t = some n) : (sizeOf t).run P w = .ok n w := by
  unfold sizeOf' at h
  cases hi : P.info? t with
  | none => simp [hi] at h
  | some i => simp [hi] at h; simp [sizeOf, typeInfo, hi, h]
theorem zeroOf_info {t : TypeId} {z : Value} (h : zeroOf P t = some z) : (∃ i, P.info? t = some i ∧ i.zero = some z) ∧ plain z = true := by
  unfold zeroOf at h
  split at h
  · rename_i i hi
    split at h
    · rename_i z' hz
      split at h
      · rename_i hp; cases h; exact ⟨⟨i, hi, hz⟩, hp⟩
      · cases h
    · cases h
  · cases h
theorem info_zero {t : TypeId} {z : Value} (h : zeroOf P t = some z) : (zeroValue t).run P w = .ok z w := by
  obtain ⟨⟨i, hi, hz⟩, _⟩ := zeroOf_info h
  simp [zeroValue, typeInfo, hi, hz]
theorem run_under {t : TypeId} {d : TypeDesc} (h : P.underlying t = some d) : (underlying t).run P w = .ok d w := by simp [underlying, h]
theorem info_agg {t : TypeId} {b : Bool} (h : isAgg' P t = some b) : (isAgg t).run P w = .ok b w := by
  unfold isAgg' at h
  cases hu : P.underlying t with
  | none => rw [hu] at h; simp at h
  | some d => rw [hu] at h; simp only [isAgg, Sem.run_bind, run_under hu, Result.andThen_ok]; cases d <;> simp_all
theorem Rel.ldVar (h : Rel P ρ σ w) {t : TypeId} {b off : Nat} {v : Value} {m : Img} (hv : AE.ldVar P t σ b off = some v) (hm : ρ b = some m) :
    ∃ v', (loadVar t ⟨m.blk, off + m.shift, none⟩).run P w = .ok v' w ∧ VR P ρ v v' := by
  unfold AE.ldVar at hv
  split at hv
  · rename_i ha
    split at hv
    · rename_i n hn
      cases hl : AE.ldCells σ b off n with
      | none => rw [hl] at hv; simp at hv
      | some vs =>
        rw [hl] at hv; simp at hv; subst hv
        obtain ⟨hlen, vs', hlr, hc⟩ := h.ldCells hl hm
        refine ⟨.agg vs'.toArray, ?_, VR.agg_iff (by simpa using hlr)⟩
        simp only [loadVar, Sem.run_bind, info_agg ha, Result.andThen_ok, if_true, info_size hn]
        rw [show n = vs'.length by rw [← hlr.len]; exact hlen.symm, run_loadCells' hc]
        rfl
    · cases hv
  · rename_i ha
    unfold AE.ld at hv
    split at hv
    · rename_i hg
      obtain ⟨v', hc, hr⟩ := h.cell hg hv hm
      refine ⟨v', ?_, hr⟩
      simp only [loadVar, Sem.run_bind, info_agg ha, Result.andThen_ok, Bool.false_eq_true, if_false, run_load, hc]
    · cases hv
  · cases hv

/-! Writing. -/
theorem setCells_heap (b : Nat) : ∀ (vs : List Value) (o : Nat) (w : World) (c : Array Value) (e : TypeId) (fz : Nat × Nat), w.heap[b]? = some (.cells c e fz) →
    ∃ c', (w.setCells b o vs).heap[b]? = some (.cells c' e fz) ∧ c'.size = c.size ∧ ∀ i, c'[i]? = if o ≤ i ∧ i < o + vs.length ∧ i < c.size then vs[i - o]? else c[i]?
  | [], o, w, c, e, fz, h => ⟨c, h, rfl, fun i => by rw [if_neg (by simp; omega)]⟩
  | v :: vs, o, w, c, e, fz, h => by
    have h1 : (w.setCell ⟨b, o, none⟩ v).heap[b]? = some (.cells (c.setIfInBounds o v) e fz) := by simp [World.setCell, Array.getElem?_modify, h]
    obtain ⟨c', h2, h3, h4⟩ := setCells_heap b vs (o + 1) _ _ e fz h1
    refine ⟨c', h2, by simpa using h3, fun i => ?_⟩
    rw [h4 i]
    simp only [Array.size_setIfInBounds, List.length_cons]
    by_cases hi : o + 1 ≤ i ∧ i < o + 1 + vs.length ∧ i < c.size
    · rw [if_pos hi, if_pos (by omega)]
      obtain ⟨k, hk⟩ : ∃ k, i - o = k + 1 := ⟨i - o - 1, by omega⟩
      rw [hk, show i - (o + 1) = k by omega]
      simp
    · rw [if_neg hi, Array.getElem?_setIfInBounds]
      by_cases he : o = i
      · subst he
        rw [if_pos rfl]
        by_cases hl : o < c.size
        · rw [if_pos hl, if_pos (by omega)]; simp
        · rw [if_neg hl, if_neg (by omega), Array.getElem?_eq_none (by omega)]
      · rw [if_neg he, if_neg (by omega)]
theorem setCells_other (b : Nat) : ∀ (vs : List Value) (o : Nat) (w : World) (k : Nat), k ≠ b → (w.setCells b o vs).heap[k]? = w.heap[k]?
  | [], _, _, _, _ => rfl
  | v :: vs, o, w, k, h => by
    rw [World.setCells, setCells_other b vs (o + 1) _ k h]
    simp [World.setCell, Array.getElem?_modify, Ne.symm h]
theorem setCells_drawn (b : Nat) : ∀ (vs : List Value) (o : Nat) (w : World), (w.setCells b o vs).drawn = w.drawn
  | [], _, _ => rfl
  | v :: r, o, w => by
    rw [World.setCells, setCells_drawn b r]
    unfold World.setCell
    split <;> rfl
theorem setCells_rest (b : Nat) : ∀ (vs : List Value) (o : Nat) (w : World), (w.setCells b o vs).heap.size = w.heap.size ∧ (w.setCells b o vs).os = w.os ∧ (w.setCells b o vs).tape = w.tape ∧ (w.setCells b o vs).output = w.output
  | [], _, _ => ⟨rfl, rfl, rfl, rfl⟩
  | v :: vs, o, w => by obtain ⟨a, b', c, d⟩ := setCells_rest b vs (o + 1) (w.setCell ⟨b, o, none⟩ v); exact ⟨by rw [World.setCells, a]; simp, b', c, d⟩
theorem frozen_of {c : Array Value} {e : TypeId} {fz : Nat × Nat} {k i : Nat} (h : w.heap[k]? = some (.cells c e fz)) (ht : thaw fz c.size) (hi : i < c.size) : w.frozen? ⟨k, i, none⟩ = false := by
  simp only [World.frozen?, h]
  rcases ht with rfl | ⟨h1, h2⟩
  · simp
  · simp; omega
/-- The model's store into cells that exist. -/
theorem run_store_row {c : Array Value} {e : TypeId} {fz : Nat × Nat} {k o : Nat} {vs : List Value} (h : w.heap[k]? = some (.cells c e fz)) (ht : thaw fz c.size) (hi : o + vs.length ≤ c.size) (h1 : ∀ v ∈ vs, v.oneCell' = true) :
    (storeCells ⟨k, o, none⟩ vs).run P w = .ok () (w.setCells k o vs) := by
  have := run_storeCells_cells (P := P) k o vs 0 w (fun j hj => by
    rw [cell_of h, Array.getElem?_eq_getElem (by omega)]; rfl) (fun j hj => frozen_of h ht (by omega)) h1
  simpa using this
theorem Rel.stCells (h : Rel P ρ σ w) {b off : Nat} {vs vs' : List Value} {σ' : AHeap} {m : Img} (hs : AE.stCells σ b off vs = some σ') (hm : ρ b = some m) (hl : LR P ρ vs vs') :
    ∃ w', (storeCells ⟨m.blk, off + m.shift, none⟩ vs').run P w = .ok () w' ∧ Rel P ρ σ' w' ∧ Ext D ρ σ w ρ σ' w' := by
  unfold AE.stCells at hs
  split at hs
  · cases hs; rw [hl.nil_inv]; exact ⟨w, rfl, h, .refl _ _ _⟩
  · rename_i hne
    split at hs
    · rename_i n c e g hg
      split at hs
      · rename_i c' hst
        cases hs
        obtain ⟨h1, h2, h3⟩ := stN_spec vs c off c' hst
        obtain ⟨m2, hm2, he, hgr, d, fz, hh, hsz, hth, hc⟩ := h.obj b _ hg
        rw [hm] at hm2; cases hm2
        have hlen : vs.length = vs'.length := hl.len
        have hin : ∀ j, j < vs.length → off + m.shift + j < d.size := fun j hj => by
          obtain ⟨v, hv⟩ := Option.isSome_iff_exists.1 (h2 j hj)
          obtain ⟨v', hv', _⟩ := hc _ _ hv
          have := (Array.getElem?_eq_some_iff.1 hv').1
          omega
        have hpos : 0 < vs.length := by cases vs with | nil => exact absurd rfl hne | cons => simp
        have hbd : off + m.shift + vs'.length ≤ d.size := by have := hin (vs.length - 1) (by omega); omega
        have one : ∀ v ∈ vs', v.oneCell' = true := fun v' hv' => by
          obtain ⟨i, hi⟩ := List.getElem?_of_mem hv'
          obtain ⟨v, hv, hr⟩ := hl.get' hi
          rw [hr.single]; exact h1 v (List.mem_of_getElem? hv)
        have hrun := run_store_row (P := P) hh (by rw [hsz]; exact (hth rfl).1) hbd one
        obtain ⟨d', hd', hds, hdc⟩ := setCells_heap m.blk vs' (off + m.shift) w d e fz hh
        obtain ⟨r1, r2, r3, r4⟩ := setCells_rest m.blk vs' (off + m.shift) w
        refine ⟨_, hrun, h.upd hg rfl hm r1 (fun k hk => setCells_other _ _ _ _ k hk) ⟨he, hgr, d', fz, hd', by rw [hds, hsz], hth, fun i v hv => ?_⟩ rfl, .upd hg rfl hm r1 (fun k hk => setCells_other _ _ _ _ k hk) r2 r3 r4 rfl (Nat.le_of_eq (setCells_drawn _ _ _ _).symm)⟩
        rw [h3 i] at hv
        split at hv
        · rename_i hi
          obtain ⟨v', hv', hr⟩ := hl.get hv
          have hj := hin (i - off) (by omega)
          refine ⟨v', ?_, hr⟩
          rw [hdc, if_pos (by omega), show i + m.shift - (off + m.shift) = i - off by omega]
          exact hv'
        · rename_i hi
          obtain ⟨v', hv', hr⟩ := hc i v hv
          refine ⟨v', ?_, hr⟩
          rw [hdc, if_neg (by omega)]
          exact hv'
      · cases hs
    · cases hs

/-! Making. -/
theorem heap_new (w : World) (c : Obj) : (w.alloc c).heap[w.heap.size]? = some c := by
  show (w.heap.push c)[w.heap.size]? = some c
  exact Array.getElem?_push_size
theorem Rel.newCells (h : Rel P ρ σ w) (e : TypeId) (g : Bool) {vs vs' : List Value} (hl : LR P ρ vs vs') (extra : List Value) (fz : Nat × Nat) (hfz : thaw fz (vs' ++ extra).length) :
    Rel P (ρ.add σ.next ⟨w.heap.size, 0, e, (vs' ++ extra).length, g⟩) (AE.newCells σ e vs g).2 (w.alloc (.cells (vs' ++ extra).toArray e fz)) ∧
    Ext D ρ σ w (ρ.add σ.next ⟨w.heap.size, 0, e, (vs' ++ extra).length, g⟩) (AE.newCells σ e vs g).2 (w.alloc (.cells (vs' ++ extra).toArray e fz)) := by
  have hfree : ρ σ.next = none := h.dom _ (Nat.le_refl _)
  refine ⟨h.new rfl ⟨rfl, rfl, (vs' ++ extra).toArray, fz, heap_new _ _, by simp, fun _ => ⟨hfz, fun _ => rfl⟩, fun i v hv => ?_⟩, .new h rfl rfl⟩
  rw [Tr.get_of] at hv
  obtain ⟨v', hv', hr⟩ := hl.get hv
  refine ⟨v', ?_, hr.mono (Ren.le_add hfree)⟩
  have := (List.getElem?_eq_some_iff.1 hv').1
  simp only [Nat.add_zero, List.getElem?_toArray]
  rw [List.getElem?_append_left this]
  exact hv'
theorem thaw_zero (n : Nat) : thaw (0, 0) n := .inl rfl
end Go.AE
end
/- What the plain operations compute. -/
section
set_option linter.all false
namespace Go.AE
variable {D : Prop} {P : Program} {ρ : Ren} {σ : AHeap} {w : World}

/-- What an operation leaves. -/
def Out (D : Prop) (P : Program) (ρ : Ren) (σ : AHeap) (w : World) (v : Value) (σ' : AHeap) (r : Result Next) : Prop :=
  ∃ ρ' v' w', (r = .ok (.value v') w' ∨ r = .ok .skip w' ∧ v' = undef) ∧ VR P ρ' v v' ∧ Rel P ρ' σ' w' ∧ Ext D ρ σ w ρ' σ' w'
theorem Out.still (h : Rel P ρ σ w) {v v' : Value} (hv : VR P ρ v v') {s : Sem Value} (hs : s.run P w = .ok v' w) : Out D P ρ σ w v σ ((do pure (Next.value (← s)) : Sem Next).run P w) :=
  ⟨ρ, v', w, .inl (by simp [hs]), hv, h, .refl _ _ _⟩

theorem pureP_run {α : Type} {s : Sem α} {a : α} (h : pureP P s = some a) (w : World) : s.run P w = .ok a w := by
  induction s with
  | pure x => simp only [pureP, Option.some.injEq] at h; subst h; rfl
  | program k ih => exact ih P h
  | _ => simp [pureP] at h

/-! Equality. -/
theorem equal_go : ∃ n, ∀ (t : TypeId) (x y : Value), Op.equal t x y = Op.equalIn (n + 1) t x y := ⟨9999, fun _ _ _ => rfl⟩
theorem eqV_sound {t : TypeId} {x y x' y' : Value} {r : Bool} (h : eqV P t x y = some r) (hx : VR P ρ x x') (hy : VR P ρ y y') (w : World) : (Op.equal t x' y').run P w = .ok r w := by
  obtain ⟨dd, hq⟩ := equal_go
  unfold eqV at h
  split at h
  · -- nil pointer first
    rw [hx.atom_inv rfl]
    rename_i b
    cases hu : P.underlying t with
    | none => rw [hu] at h; simp at h
    | some d =>
      rw [hu] at h
      cases d <;> simp at h
      subst h
      cases b with
      | none => rw [hy.atom_inv rfl]; simp [hq, Op.equalIn, run_under hu]
      | some a => obtain ⟨m, _, _, rfl⟩ := hy.ptr_inv; simp [hq, Op.equalIn, run_under hu]
  · rw [hy.atom_inv rfl]
    cases hu : P.underlying t with
    | none => rw [hu] at h; simp at h
    | some d =>
      rw [hu] at h
      cases d <;> simp at h
      subst h
      obtain ⟨m, _, _, rfl⟩ := hx.ptr_inv; simp [hq, Op.equalIn, run_under hu]
  · rw [hx.atom_inv rfl]
    rename_i b _ _
    cases hu : P.underlying t with
    | none => rw [hu] at h; simp at h
    | some d =>
      rw [hu] at h
      cases d <;> simp at h
      subst h
      cases b with
      | none => rw [hy.atom_inv rfl]; simp [hq, Op.equalIn, run_under hu]
      | some a => rcases hy.slice_inv with ⟨m, c', s, _, _, _, _, _, rfl⟩ | ⟨m, a', _, _, _, _, _, rfl⟩ | ⟨k, a', _, _, _, rfl⟩ <;> simp [hq, Op.equalIn, run_under hu]
  · rw [hy.atom_inv rfl]
    cases hu : P.underlying t with
    | none => rw [hu] at h; simp at h
    | some d =>
      rw [hu] at h
      cases d <;> simp at h
      subst h
      rcases hx.slice_inv with ⟨m, c', s, _, _, _, _, _, rfl⟩ | ⟨m, a', _, _, _, _, _, rfl⟩ | ⟨k, a', _, _, _, rfl⟩ <;> simp [hq, Op.equalIn, run_under hu]
  · rw [hx.atom_inv rfl]
    rename_i b
    cases hu : P.underlying t with
    | none => rw [hu] at h; simp at h
    | some d =>
      rw [hu] at h
      cases d <;> simp at h
      subst h
      cases b with
      | none => rw [hy.atom_inv rfl]; simp [hq, Op.equalIn, run_under hu]
      | some a => obtain ⟨m, _, rfl⟩ := hy.map_inv; simp [hq, Op.equalIn, run_under hu]
  · rw [hy.atom_inv rfl]
    cases hu : P.underlying t with
    | none => rw [hu] at h; simp at h
    | some d =>
      rw [hu] at h
      cases d <;> simp at h
      subst h
      obtain ⟨m, _, rfl⟩ := hx.map_inv; simp [hq, Op.equalIn, run_under hu]
  · rw [hy.atom_inv rfl]
    cases hu : P.underlying t with
    | none => rw [hu] at h; simp at h
    | some d =>
      rw [hu] at h
      cases d <;> simp at h
      subst h
      obtain ⟨a, b, rfl, _, _⟩ := hx.func_inv; simp [hq, Op.equalIn, run_under hu]
  · rw [hx.atom_inv rfl]
    cases hu : P.underlying t with
    | none => rw [hu] at h; simp at h
    | some d =>
      rw [hu] at h
      cases d <;> simp at h
      subst h
      obtain ⟨a, b, rfl, _, _⟩ := hy.func_inv; simp [hq, Op.equalIn, run_under hu]
  · rw [hx.atom_inv rfl]
    cases hu : P.underlying t with
    | none => rw [hu] at h; simp at h
    | some d =>
      rw [hu] at h
      cases d <;> simp at h
      subst h
      obtain ⟨a, rfl, _⟩ := hy.iface_inv; simp [hq, Op.equalIn, run_under hu]
  · rw [hy.atom_inv rfl]
    cases hu : P.underlying t with
    | none => rw [hu] at h; simp at h
    | some d =>
      rw [hu] at h
      cases d <;> simp at h
      subst h
      obtain ⟨a, rfl, _⟩ := hx.iface_inv; simp [hq, Op.equalIn, run_under hu]
  · split at h
    · rename_i hp
      simp only [Bool.and_eq_true] at hp
      rw [hx.eq_of_plain hp.1, hy.eq_of_plain hp.2]
      exact pureP_run h w
    · cases h

theorem strOp_sound {op : BinOp} {x y : ByteArray} {v : Value} (h : strOp op x y = some v) (w : World) : (Op.stringOp op x y).run P w = .ok v w := by
  unfold strOp at h
  unfold Op.stringOp
  simp only [ByteArray.toList_eq]
  cases op <;> simp only [Option.some.injEq] at h <;> try (subst h; rfl)
  all_goals try (cases h; done)
  · by_cases hb : ((x.size + y.size : Nat) : Int) > IntKind.i64.max
    · rw [if_pos hb] at h; cases h
    · rw [if_neg hb] at h ⊢
      cases h
      have : x ++ y = ByteArray.mk (x.data.toList ++ y.data.toList).toArray := by
        rw [← ByteArray.mk_append_mk]
      simp [this]

theorem bin_eql (t : TypeId) (a b : Value) (h1 : ∀ k n k' n', a = .int k n → b = .int k' n' → False) (h2 : ∀ k n k' n', a = .float k n → b = .float k' n' → False)
    (h3 : ∀ k n i k' n' i', a = .complex k n i → b = .complex k' n' i' → False) (h4 : ∀ s u, a = .string s → b = .string u → False) :
    Go.binOp .eql t a b = (do pure (.bool (← Op.equal t a b))) ∧ Go.binOp .neq t a b = (do pure (.bool (!(← Op.equal t a b)))) := by
  cases a <;> cases b <;> first | exact ⟨rfl, rfl⟩ | exact (h1 _ _ _ _ rfl rfl).elim | exact (h2 _ _ _ _ rfl rfl).elim | exact (h3 _ _ _ _ _ _ rfl rfl).elim | exact (h4 _ _ rfl rfl).elim
end Go.AE
end
/- The operations that leave memory as it is. -/
section
set_option linter.all false
namespace Go.AE
variable {D : Prop} {P : Program} {ρ : Ren} {σ : AHeap} {w : World}

def OutV (D : Prop) (P : Program) (ρ : Ren) (σ : AHeap) (w : World) (v : Value) (σ' : AHeap) (r : Result Value) : Prop :=
  ∃ ρ' v' w', r = .ok v' w' ∧ VR P ρ' v v' ∧ Rel P ρ' σ' w' ∧ Ext D ρ σ w ρ' σ' w'
def OutU (D : Prop) (P : Program) (ρ : Ren) (σ : AHeap) (w : World) (σ' : AHeap) (r : Result Unit) : Prop :=
  ∃ ρ' w', r = .ok () w' ∧ Rel P ρ' σ' w' ∧ Ext D ρ σ w ρ' σ' w'
theorem OutV.out {v : Value} {σ' : AHeap} {s : Sem Value} (h : OutV D P ρ σ w v σ' (s.run P w)) : Out D P ρ σ w v σ' ((do pure (Next.value (← s)) : Sem Next).run P w) := by
  obtain ⟨ρ', v', w', hr, hv, hR, hE⟩ := h
  exact ⟨ρ', v', w', .inl (by simp [hr]), hv, hR, hE⟩
theorem OutU.out {σ' : AHeap} {s : Sem Unit} (h : OutU D P ρ σ w σ' (s.run P w)) : Out D P ρ σ w undef σ' ((do s; pure Next.skip : Sem Next).run P w) := by
  obtain ⟨ρ', w', hr, hR, hE⟩ := h
  exact ⟨ρ', undef, w', .inr ⟨by simp [hr], rfl⟩, .undef, hR, hE⟩
theorem OutV.same (h : Rel P ρ σ w) {v v' : Value} (hv : VR P ρ v v') {s : Sem Value} (hs : s.run P w = .ok v' w) : OutV D P ρ σ w v σ (s.run P w) := ⟨ρ, v', w, hs, hv, h, .refl _ _ _⟩

theorem atomic_some {o : Option Value} {v : Value} (h : atomic o = some v) : o = some v ∧ atom v = true := by
  unfold atomic at h
  split at h
  · split at h
    · rename_i ha; cases h; exact ⟨rfl, ha⟩
    · cases h
  · cases h

/-! Two operands. -/
def nilHead : Value → Bool
  | .nilIface => true
  | _ => false
def aggHead : Value → Bool
  | .agg _ => true
  | _ => false
theorem VR.nilHead {v v' : Value} (h : VR P ρ v v') : AE.nilHead v' = AE.nilHead v := by cases h <;> rfl
theorem VR.aggHead {v v' : Value} (h : VR P ρ v v') : AE.aggHead v' = AE.aggHead v := by cases h <;> rfl
theorem eqGuard_run {op : BinOp} {t : TypeId} {x y : Operand} {a b : Value} (h1 : AE.nilHead a = true → AE.nilHead b = true → ((x matches .const _) || (y matches .const _)) = true) (h2 : AE.aggHead a = true → AE.aggHead b = true → P.eqGuardType P.depth t = false) :
    (Go.eqGuard op t x y a b).run P w = .ok () w := by
  unfold Go.eqGuard
  split
  · rw [if_neg (by decide)]
    split
    · have := h1 rfl rfl
      cases x <;> cases y <;> first | rfl | (simp at this; done)
    · have := h2 rfl rfl
      simp [this]
    · rfl
  · rw [if_neg (by decide)]
    split
    · have := h1 rfl rfl
      cases x <;> cases y <;> first | rfl | (simp at this; done)
    · have := h2 rfl rfl
      simp [this]
    · rfl
  · rfl
theorem bin_out {op : BinOp} {t : TypeId} {x y : Operand} {a b a' b' v : Value} (h : bin P op t x y a b = some v) (hR : Rel P ρ σ w) (ha : VR P ρ a a') (hb : VR P ρ b b') :
    OutV D P ρ σ w v σ ((do Go.eqGuard op t x y a' b'; Go.binOp op t a' b').run P w) := by
  unfold bin at h
  split at h
  · rename_i s u
    rw [ha.string_inv, hb.string_inv]
    refine .same hR (v' := v) ?_ ?_
    · unfold strOp at h
      cases op <;> simp only [Option.some.injEq] at h <;> first | (subst h; exact .atom rfl) | (cases h; done) | (split at h <;> first | (cases h; done) | (cases h; exact .atom rfl))
    · rw [Sem.run_bind, eqGuard_run (by intro h; cases h) (by intro h; cases h), Result.andThen_ok]
      have : Go.binOp op t (.string s) (.string u) = Op.stringOp op s u := by cases op <;> rfl
      rw [this]
      exact strOp_sound h w
  · rename_i k n k' n'
    rw [ha.int_inv, hb.int_inv]
    obtain ⟨hp, hat⟩ := atomic_some h
    exact .same hR (v' := v) (.atom hat) (by rw [Sem.run_bind, eqGuard_run (by intro h; cases h) (by intro h; cases h), Result.andThen_ok]; exact pureP_run hp w)
  · rename_i k n k' n'
    rw [ha.atom_inv rfl, hb.atom_inv rfl]
    obtain ⟨hp, hat⟩ := atomic_some h
    exact .same hR (v' := v) (.atom hat) (by rw [Sem.run_bind, eqGuard_run (by intro h; cases h) (by intro h; cases h), Result.andThen_ok]; exact pureP_run hp w)
  · cases h
  · rename_i n1 n2 n3 n4
    split at h
    · cases h
    · rename_i he
      dsimp only at h
      split at h
      · cases h
      · rename_i hg
        cases hv : eqV P t a b with
        | none => rw [hv] at h; simp at h
        | some r =>
          rw [hv] at h
          simp only [Option.map_some, Option.some.injEq] at h
          have hq := eqV_sound hv ha hb w
          have hgd : (Go.eqGuard op t x y a' b').run P w = .ok () w := by
            refine eqGuard_run (fun c d => ?_) (fun c d => ?_)
            · rw [ha.nilHead] at c; rw [hb.nilHead] at d
              cases a <;> simp [AE.nilHead] at c
              cases b <;> simp [AE.nilHead] at d
              cases x <;> cases y <;> simp_all
            · rw [ha.aggHead] at c; rw [hb.aggHead] at d
              cases a <;> simp [AE.aggHead] at c
              cases b <;> simp [AE.aggHead] at d
              simpa using hg
          have back : ∀ {z z' : Value}, VR P ρ z z' → (∀ u, AE.atom u = true → z' = u → z = u) := fun {z z'} hz u hu e => by
            subst e
            cases hz <;> first | rfl | (simp [AE.atom] at hu; done)
          obtain ⟨q1, q2⟩ := bin_eql t a' b' (fun k n k' n' e1 e2 => n2 _ _ _ _ (back ha _ rfl e1) (back hb _ rfl e2)) (fun k n k' n' e1 e2 => n3 _ _ _ _ (back ha _ rfl e1) (back hb _ rfl e2))
            (fun k n i k' n' i' e1 e2 => n4 _ _ _ _ _ _ (back ha _ rfl e1) (back hb _ rfl e2)) (fun s u e1 e2 => n1 _ _ (back ha _ rfl e1) (back hb _ rfl e2))
          subst h
          refine .same hR (v' := _) (.atom rfl) ?_
          rw [Sem.run_bind, hgd, Result.andThen_ok]
          cases op <;> simp only [isEq] at he <;> try (cases he; done)
          · rw [q1]; simp [hq]
          · rw [q2]; simp [hq]
theorem un_out {op : UnOp} {a a' v : Value} (h : un P op a = some v) (hR : Rel P ρ σ w) (ha : VR P ρ a a') : OutV D P ρ σ w v σ ((Op.unary op a').run P w) := by
  unfold un at h
  split at h
  · rename_i hat
    rw [ha.atom_inv hat]
    obtain ⟨hp, hav⟩ := atomic_some h
    exact .same hR (.atom hav) (pureP_run hp w)
  · cases h
end Go.AE
end
/- Parts, addresses, bounds. -/
section
set_option linter.all false
namespace Go.AE
variable {D : Prop} {P : Program} {ρ : Ren} {σ : AHeap} {w : World}

theorem VR.ptr' {b o k : Nat} {m : Img} (h : ρ b = some m) (e : k = o + m.shift) : VR P ρ (.pointer (some ⟨b, o, none⟩)) (.pointer (some ⟨m.blk, k, none⟩)) := e ▸ .ptr h
theorem nat_inv {v v' : Value} {n : Nat} (h : natOf v = some n) (hv : VR P ρ v v') : v' = v ∧ ∃ k, v = .int k (n : Int) := by
  unfold natOf at h
  split at h
  · cases h; exact ⟨hv.atom_inv rfl, _, rfl⟩
  · cases h
theorem idx_inv {v v' : Value} {len i : Nat} (h : idx v len = some i) (hv : VR P ρ v v') : i < len ∧ ∃ k, v' = .int k (i : Int) := by
  unfold idx at h
  cases hn : natOf v with
  | none => rw [hn] at h; simp at h
  | some n =>
    rw [hn] at h
    simp only [Option.bind_some] at h
    split at h
    · rename_i hlt
      cases h
      obtain ⟨rfl, k, hk⟩ := nat_inv hn hv
      exact ⟨hlt, k, hk⟩
    · cases h
theorem run_asIntOf (k : IntKind) (n : Int) : (asIntOf (.int k n)).run P w = .ok (k, n) w := rfl

/-! Parts. -/
theorem LR.extract {x x' : Array Value} (h : LR P ρ x.toList x'.toList) (a b : Nat) : LR P ρ (x.extract a b).toList (x'.extract a b).toList := by
  simp only [Array.toList_extract, List.extract_eq_take_drop]
  exact (h.drop a).take _
theorem part_sound {t : TypeId} {cs cs' : Array Value} {off : Nat} {v : Value} (h : part' P t cs off = some v) (hl : LR P ρ cs.toList cs'.toList) :
    ∃ v', (part t cs' off).run P w = .ok v' w ∧ VR P ρ v v' := by
  unfold part' at h
  split at h
  · rename_i ha
    cases hs : sizeOf' P t with
    | none => rw [hs] at h; simp at h
    | some n =>
      rw [hs] at h
      simp only [Option.map_some, Option.some.injEq] at h
      subst h
      exact ⟨.agg (cs'.extract off (off + n)), by simp [part, info_agg ha, info_size hs], VR.agg_iff (hl.extract _ _)⟩
  · rename_i ha
    obtain ⟨v', hv', hr⟩ := hl.get (i := off) (v := v) (by simpa using h)
    exact ⟨v', by simp only [part, Sem.run_bind, info_agg ha, Result.andThen_ok, Bool.false_eq_true, if_false]; rw [show cs'[off]? = some v' by simpa using hv']; rfl, hr⟩
  · cases h
theorem fieldVal_out {t : TypeId} {x x' v : Value} {i : Nat} (h : fieldVal P t x i = some v) (hR : Rel P ρ σ w) (hx : VR P ρ x x') : OutV D P ρ σ w v σ ((Instr.field t x' i).run P w) := by
  unfold fieldVal at h
  split at h
  · rename_i fields cs hu
    obtain ⟨cs', rfl, hl⟩ := hx.agg_inv
    cases hf : fields[i]? with
    | none => rw [hf] at h; simp at h
    | some f =>
      rw [hf] at h
      simp only [Option.bind_some] at h
      obtain ⟨v', hp, hr⟩ := part_sound (w := w) h hl
      exact .same hR hr (by simp only [Instr.field, Sem.run_bind, run_under hu, Result.andThen_ok, hf, asAgg, Sem.run_pure]; exact hp)
  · cases h
theorem indexVal_out {t : TypeId} {x x' ix ix' v : Value} (h : indexVal P t x ix = some v) (hR : Rel P ρ σ w) (hx : VR P ρ x x') (hi : VR P ρ ix ix') : OutV D P ρ σ w v σ ((Instr.index t x' ix').run P w) := by
  unfold indexVal at h
  split at h
  · rename_i len elem cs hu
    obtain ⟨cs', rfl, hl⟩ := hx.agg_inv
    split at h
    · rename_i s i hs hix
      obtain ⟨hlt, k, rfl⟩ := idx_inv hix hi
      obtain ⟨v', hp, hr⟩ := part_sound (w := w) h hl
      refine .same hR hr ?_
      simp only [Instr.index, Sem.run_bind, run_asIntOf, run_under hu, Result.andThen_ok]
      rw [if_pos (by omega)]
      simp only [Sem.run_bind, info_size hs, Result.andThen_ok, Int.toNat_natCast]
      exact hp
    · cases h
  · rename_i s hu
    rw [hx.string_inv]
    cases hix : idx ix s.size with
    | none => rw [hix] at h; simp at h
    | some i =>
      rw [hix] at h
      simp only [Option.bind_some] at h
      cases hb : s.data.toList[i]? with
      | none => rw [hb] at h; simp at h
      | some b =>
        rw [hb] at h
        simp only [Option.map_some, Option.some.injEq] at h
        subst h
        obtain ⟨hlt, k, rfl⟩ := idx_inv hix hi
        refine .same hR (v' := .int .u8 b.toNat) (.atom rfl) ?_
        simp only [Instr.index, Sem.run_bind, run_asIntOf, run_under hu, Result.andThen_ok]
        rw [if_pos (by omega), Int.toNat_natCast]
        have : s[i]? = some b := by
          rw [← hb]
          simp only [Array.getElem?_toList]
          by_cases h : i < s.size
          · have h' : i < s.data.size := h
            rw [getElem?_pos s i h, getElem?_pos s.data i h']
            rfl
          · exact absurd hlt h
        rw [this]
        rfl
  · cases h
theorem indexAddr_out {t : TypeId} {x x' ix ix' v : Value} (h : indexAddr P t x ix = some v) (hR : Rel P ρ σ w) (hx : VR P ρ x x') (hi : VR P ρ ix ix') : OutV D P ρ σ w v σ ((Instr.indexAt t x' ix').run P w) := by
  unfold indexAddr at h
  split at h
  · rename_i len elem a hu
    obtain ⟨m, hm, hsp, rfl⟩ := hx.ptr_inv
    split at h
    · rename_i s i hs hix
      cases h
      obtain ⟨hlt, k, rfl⟩ := idx_inv hix hi
      obtain ⟨b, o, sp⟩ := a
      simp only at hsp hm; subst hsp
      refine .same hR (v' := .pointer (some ⟨m.blk, o + m.shift + i * s, none⟩)) (by rw [addr_add]; exact .ptr' hm (by omega)) ?_
      simp only [Instr.indexAt, Sem.run_bind, run_asIntOf, run_under hu, Result.andThen_ok, Instr.sureAddr, Sem.run_pure]
      rw [if_pos (by omega)]
      simp only [Sem.run_bind, info_size hs, Result.andThen_ok, Int.toNat_natCast, Sem.run_pure, addr_add]
    · cases h
  · rename_i elem a len c hu
    split at h
    · rename_i s i hsp hs hix
      cases h
      obtain ⟨hlt, k, rfl⟩ := idx_inv hix hi
      obtain ⟨b, o, sp⟩ := a
      simp only at hsp; subst hsp
      rcases hx.slice_inv with ⟨m, c', s', _, hm, hn, hc, hz, rfl⟩ | ⟨m, a', _, _, _, h0, _, _⟩ | ⟨k', a', h0, _⟩
      · refine .same hR (v' := .pointer (some ⟨m.blk, o + m.shift + i * s, none⟩)) (by rw [addr_add]; exact .ptr' hm (by omega)) ?_
        simp only [Instr.indexAt, Sem.run_bind, run_asIntOf, run_under hu, Result.andThen_ok, Sem.run_pure]
        rw [if_pos (by omega)]
        simp only [Sem.run_bind, info_size hs, Result.andThen_ok, Int.toNat_natCast, Sem.run_pure, addr_add]
      · omega
      · simp at h0
    · cases h
  · cases h
theorem fieldAddr_out {t : TypeId} {x x' v : Value} {i : Nat} (h : fieldAddr P t x i = some v) (hR : Rel P ρ σ w) (hx : VR P ρ x x') : OutV D P ρ σ w v σ ((Instr.fieldAt t x' i).run P w) := by
  unfold fieldAddr at h
  split at h
  · rename_i fields a hu
    obtain ⟨m, hm, hsp, rfl⟩ := hx.ptr_inv
    split at h
    · rename_i f hf
      split at h
      · rename_i n hs
        cases h
        obtain ⟨b, o, sp⟩ := a
        simp only at hsp hm; subst hsp
        refine .same hR (v' := .pointer (some ⟨m.blk, o + m.shift + f.offset, none⟩)) (by rw [addr_add]; exact .ptr' hm (by omega)) ?_
        simp only [Instr.fieldAt, Sem.run_bind, run_under hu, Result.andThen_ok, hf, Instr.sureAddr, Sem.run_pure, fieldPlace, info_size hs]
        simp [addr_add]
      · cases h
    · cases h
  · cases h

/-! A struct or an array out of parts. -/
theorem foldl_set (off : Nat) : ∀ (l : List Value) (k : Nat) (a : Array Value), off + k + l.length ≤ a.size →
    ((l.zipIdx k).foldl (fun cs x => cs.setIfInBounds (off + x.2) x.1) a).toList = a.toList.take (off + k) ++ l ++ a.toList.drop (off + k + l.length)
  | [], k, a, h => by simp
  | v :: l, k, a, h => by
    rw [List.zipIdx_cons, List.foldl_cons, foldl_set off l (k + 1) _ (by simp at h ⊢; omega)]
    simp only [List.length_cons] at h ⊢
    rw [Array.toList_setIfInBounds, List.take_set, List.drop_set]
    have hlt : off + k < a.toList.length := by simp; omega
    rw [if_pos (by omega)]
    apply List.ext_getElem?
    intro i
    simp only [List.append_assoc]
    conv => lhs; rw [List.getElem?_append]
    conv => rhs; rw [List.getElem?_append]
    simp only [List.length_set, List.length_take, Array.length_toList]
    rw [show min (off + (k + 1)) a.size = off + k + 1 by omega, show min (off + k) a.size = off + k by omega]
    by_cases h1 : i < off + k
    · rw [if_pos (by omega), if_pos h1, List.getElem?_set, if_neg (by omega), List.getElem?_take, List.getElem?_take, if_pos (by omega), if_pos h1]
    · by_cases h2 : i = off + k
      · subst h2
        rw [if_pos (by omega), if_neg (by omega), List.getElem?_set, if_pos rfl]
        simp
        omega
      · rw [if_neg (by omega), if_neg h1]
        obtain ⟨j, hj⟩ : ∃ j, i - (off + k) = j + 1 := ⟨i - (off + k) - 1, by omega⟩
        rw [hj, show i - (off + k + 1) = j by omega]
        simp only [List.cons_append, List.getElem?_cons_succ]
        rw [show off + (k + 1) + l.length = off + k + (l.length + 1) by omega]
theorem fill_sound {place : Nat → Option (Nat × Nat)} : ∀ (parts parts' : List (Nat × Value)) (cells : List Value) (cells' : Array Value) (r : List Value), fill' place cells parts = some r → LR P ρ cells cells'.toList →
    parts.map (·.1) = parts'.map (·.1) → LR P ρ (parts.map (·.2)) (parts'.map (·.2)) → ∃ r', Instr.fill place cells' parts' = some r' ∧ LR P ρ r r'.toList
  | [], parts', cells, cells', r, h, hl, hi, hv => by
    cases parts' with
    | nil => simp only [fill', Option.some.injEq] at h; subst h; exact ⟨cells', rfl, hl⟩
    | cons => simp at hi
  | (i, v) :: rest, parts', cells, cells', r, h, hl, hi, hv => by
    cases parts' with
    | nil => simp at hi
    | cons p rest' =>
      obtain ⟨i', v'⟩ := p
      simp only [List.map_cons, List.cons.injEq] at hi
      obtain ⟨rfl, hi⟩ := hi
      obtain ⟨u, us, he, hvv, hvs⟩ := hv.cons_inv
      simp only [List.map_cons, List.cons.injEq] at he
      obtain ⟨rfl, rfl⟩ := he
      have hc := hvv.cells
      have hcl : v.cells.size = v'.cells.size := by have := hc.len; simpa using this
      have hll : cells.length = cells'.size := by have := hl.len; simpa using this
      rw [fill'] at h
      rw [Instr.fill]
      split at h
      · cases h
      · rename_i off size hp
        rw [hp]
        simp only
        split at h
        · cases h
        · rename_i hb
          simp only [Bool.and_eq_true, beq_tf, decide_eq_true_eq, Nat.ble_eq] at hb
          rw [if_neg (by simp; omega)]
          refine fill_sound rest rest' _ _ r h ?_ hi hvs
          have hz : (v'.cells.zipIdx.foldl (fun cs x => cs.setIfInBounds (off + x.2) x.1) cells').toList = cells'.toList.take off ++ v'.cells.toList ++ cells'.toList.drop (off + v'.cells.size) := by
            rw [← Array.foldl_toList, Array.toList_zipIdx]
            have := foldl_set off v'.cells.toList 0 cells' (by simp; omega)
            simpa using this
          have hzz : (Array.foldl (fun cs (x : Value × Nat) => match x with | (c, j) => cs.setIfInBounds (off + j) c) cells' v'.cells.zipIdx).toList = cells'.toList.take off ++ v'.cells.toList ++ cells'.toList.drop (off + v'.cells.size) := hz
          rw [hzz, hcl]
          exact ((hl.take off).append hc).append (hl.drop _)
end Go.AE
end
/- Structs out of parts; slicing; the small rest of the operations that leave memory as it is. -/
section
set_option linter.all false
namespace Go.AE
variable {D : Prop} {P : Program} {ρ : Ren} {σ : AHeap} {w : World}

theorem run_mapM_list {α β : Type} (f : α → Sem β) (g : α → β) : ∀ (l : List α), (∀ x ∈ l, (f x).run P w = .ok (g x) w) → (l.mapM f).run P w = .ok (l.map g) w
  | [], _ => by simp
  | x :: l, h => by
    rw [List.mapM_cons]
    simp only [Sem.run_bind, h x (by simp), Result.andThen_ok, run_mapM_list f g l (fun y hy => h y (by simp [hy])), Sem.run_pure, List.map_cons]
theorem run_mapM {α β : Type} (f : α → Sem β) (g : α → β) (l : Array α) (h : ∀ x ∈ l.toList, (f x).run P w = .ok (g x) w) : (l.mapM f).run P w = .ok (l.map g) w := by
  have h1 : (l.mapM f) = (fun r => r.toArray) <$> (l.toList.mapM f) := by
    rw [Array.mapM_eq_mapM_toList]
  rw [h1, Sem.run_map, run_mapM_list f g l.toList h, Result.andThen_ok]
  congr 1
  apply Array.ext'
  simp
theorem places_spec : ∀ (fs : List Field) (ps : List (Nat × Nat)), places P fs = some ps → (∀ f ∈ fs, ∃ n, sizeOf' P f.type = some n) ∧ ps = fs.map fun f => (f.offset, (sizeOf' P f.type).getD 0)
  | [], ps, h => by simp only [places, Option.some.injEq] at h; subst h; simp
  | f :: fs, ps, h => by
    rw [places] at h
    split at h
    · rename_i n qs hn hq
      cases h
      obtain ⟨h1, h2⟩ := places_spec fs qs hq
      refine ⟨fun g hg => ?_, by simp [hn, h2]⟩
      rcases List.mem_cons.1 hg with rfl | hg
      · exact ⟨n, hn⟩
      · exact h1 g hg
    · cases h
theorem build_out {t : TypeId} {parts : List (Nat × Value)} {parts' : Array (Nat × Value)} {v : Value} (h : build' P t parts = some v) (hR : Rel P ρ σ w)
    (hi : parts.map (·.1) = parts'.toList.map (·.1)) (hv : LR P ρ (parts.map (·.2)) (parts'.toList.map (·.2))) : OutV D P ρ σ w v σ ((Instr.build t parts').run P w) := by
  unfold build' at h
  split at h
  · rename_i z fields hz hu
    split at h
    · rename_i ps hp
      cases hf : fill' (fun i => ps[i]?) z.cells.toList parts with
      | none => rw [hf] at h; simp at h
      | some r =>
        rw [hf] at h
        simp only [Option.map_some, Option.some.injEq] at h
        subst h
        obtain ⟨hall, hps⟩ := places_spec _ _ hp
        have hzz := (VR.of_plain (P := P) (ρ := ρ) (zeroOf_info hz).2).cells
        obtain ⟨r', hr', hlr⟩ := fill_sound parts parts'.toList _ _ r hf hzz hi hv
        refine .same hR (v' := .agg r') (VR.agg_iff (by simpa using hlr)) ?_
        have hm : (fields.mapM fun f => do pure (f.offset, ← sizeOf f.type) : Sem _).run P w = .ok (fields.map fun f => (f.offset, (sizeOf' P f.type).getD 0)) w :=
          run_mapM _ _ _ fun f hf => by obtain ⟨n, hn⟩ := hall f hf; simp [info_size hn, hn]
        have hpl : (fun (i : Nat) => (fields.map fun f => (f.offset, (sizeOf' P f.type).getD 0))[i]?) = fun (i : Nat) => ps[i]? := by
          funext i; rw [hps, List.getElem?_map, Array.getElem?_map]; simp
        simp only [Instr.build, Sem.run_bind, info_zero hz, Result.andThen_ok, run_under hu, hm]
        rw [hpl, hr']
        rfl
    · cases h
  · rename_i z len elem hz hu
    split at h
    · rename_i size hs
      cases hf : fill' (fun i => some (i * size, size)) z.cells.toList parts with
      | none => rw [hf] at h; simp at h
      | some r =>
        rw [hf] at h
        simp only [Option.map_some, Option.some.injEq] at h
        subst h
        have hzz := (VR.of_plain (P := P) (ρ := ρ) (zeroOf_info hz).2).cells
        obtain ⟨r', hr', hlr⟩ := fill_sound parts parts'.toList _ _ r hf hzz hi hv
        refine .same hR (v' := .agg r') (VR.agg_iff (by simpa using hlr)) ?_
        simp only [Instr.build, Sem.run_bind, info_zero hz, Result.andThen_ok, run_under hu, info_size hs]
        rw [hr']
        rfl
    · cases h
  · cases h

/-! Bounds. -/
structure OR (P : Program) (ρ : Ren) (o o' : Option Value) : Prop where
  none_ : o = none → o' = none
  some_ : ∀ v, o = some v → ∃ v', o' = some v' ∧ VR P ρ v v'
theorem run_sliceBound {k : IntKind} {n y : Nat} {c : BoundsCode} (h : n ≤ y) : (Instr.sliceBound (.int k (n : Int)) y c).run P w = .ok n w := by
  simp only [Instr.sliceBound, Sem.run_bind, run_asIntOf, Result.andThen_ok]
  rw [if_pos (by omega)]
  rfl
theorem bound_inv {v v' : Value} {y n : Nat} (h : ubound v y = some n) (hv : VR P ρ v v') : n ≤ y ∧ ∃ k, v' = .int k (n : Int) := by
  unfold ubound at h
  split at h
  · rename_i j hn
    split at h
    · rename_i hle
      cases h
      obtain ⟨rfl, k, hk⟩ := nat_inv hn hv
      exact ⟨Nat.le_of_ble_eq_true hle, k, hk⟩
    · cases h
  · cases h
theorem lowB_inv {low low' : Option Value} {l hh m a b : Nat} (h : lowB low a b = some (l, hh, m)) (hl : OR P ρ low low') : hh = a ∧ m = b ∧ l ≤ hh ∧ ((low' = none ∧ l = 0) ∨ ∃ k, low' = some (.int k (l : Int))) := by
  unfold lowB at h
  split at h
  · cases h; exact ⟨rfl, rfl, Nat.zero_le _, .inl ⟨hl.none_ rfl, rfl⟩⟩
  · rename_i v
    split at h
    · rename_i n hb
      cases h
      obtain ⟨v', rfl, hr⟩ := hl.some_ v rfl
      obtain ⟨hle, k, rfl⟩ := bound_inv hb hr
      exact ⟨rfl, rfl, hle, .inr ⟨k, rfl⟩⟩
    · cases h
theorem bounds_sound {isSlice : Bool} {len cap cap' l hh m : Nat} {low high max low' high' max' : Option Value} (h : bounds len cap low high max = some (l, hh, m)) (hlen : len ≤ cap) (hc : cap ≤ cap')
    (hl : OR P ρ low low') (hhi : OR P ρ high high') (hm : OR P ρ max max') : l ≤ hh ∧ hh ≤ m ∧ m ≤ cap ∧ (max = none → m = cap) ∧
      (Instr.sliceBounds isSlice len cap' low' high' max').run P w = .ok (l, hh, if max.isNone then cap' else m) w := by
  unfold bounds at h
  split at h
  · rw [hm.none_ rfl, hhi.none_ rfl]
    obtain ⟨rfl, rfl, hle, hlow⟩ := lowB_inv h hl
    refine ⟨hle, hlen, Nat.le_refl _, fun _ => rfl, ?_⟩
    rcases hlow with ⟨rfl, rfl⟩ | ⟨k, rfl⟩
    · simp [Instr.sliceBounds]
    · simp [Instr.sliceBounds, run_sliceBound hle]
  · rename_i v
    rw [hm.none_ rfl]
    obtain ⟨v', rfl, hr⟩ := hhi.some_ v rfl
    split at h
    · rename_i n hb
      obtain ⟨hn, k, rfl⟩ := bound_inv hb hr
      obtain ⟨rfl, rfl, hle, hlow⟩ := lowB_inv h hl
      refine ⟨hle, hn, Nat.le_refl _, fun _ => rfl, ?_⟩
      rcases hlow with ⟨rfl, rfl⟩ | ⟨k, rfl⟩
      · simp [Instr.sliceBounds, run_sliceBound (Nat.le_trans hn hc)]
      · simp [Instr.sliceBounds, run_sliceBound (Nat.le_trans hn hc), run_sliceBound hle]
    · cases h
  · rename_i u v
    obtain ⟨u', rfl, hur⟩ := hm.some_ u rfl
    obtain ⟨v', rfl, hr⟩ := hhi.some_ v rfl
    split at h
    · rename_i mx hu
      obtain ⟨hmx, ku, rfl⟩ := bound_inv hu hur
      split at h
      · rename_i n hb
        obtain ⟨hn, k, rfl⟩ := bound_inv hb hr
        obtain ⟨rfl, rfl, hle, hlow⟩ := lowB_inv h hl
        refine ⟨hle, hn, hmx, fun e => by simp at e, ?_⟩
        rcases hlow with ⟨rfl, rfl⟩ | ⟨k, rfl⟩
        · simp [Instr.sliceBounds, run_sliceBound (Nat.le_trans hmx hc), run_sliceBound hn]
        · simp [Instr.sliceBounds, run_sliceBound (Nat.le_trans hmx hc), run_sliceBound hn, run_sliceBound hle]
      · cases h
    · cases h
  · cases h
end Go.AE
end
/- Slicing. -/
section
set_option linter.all false
namespace Go.AE
variable {D : Prop} {P : Program} {ρ : Ren} {σ : AHeap} {w : World}

theorem extract_mk (s : ByteArray) (l h : Nat) : s.extract l h = ⟨((s.data.toList.take h).drop l).toArray⟩ := by
  have : (s.extract l h).data = ((s.data.toList.take h).drop l).toArray := by
    rw [ByteArray.data_extract]
    apply Array.ext'
    simp only [Array.toList_extract, List.extract_eq_take_drop]
    rw [← List.drop_take]
  cases hs : s.extract l h with
  | mk d => rw [hs] at this; simp only at this; rw [this]
theorem sliceArr_sound {size l h m : Nat} {b o : Nat} {g : Img} (hg : ρ b = some g) (h1 : l ≤ h) (h2 : h ≤ m) :
    VR P ρ (sliceArr size l h m ⟨b, o, none⟩) (.slice (some (if m = l then ⟨g.blk, o + g.shift, none⟩ else (⟨g.blk, o + g.shift, none⟩ : Addr).add (l * size))) (h - l) (m - l)) := by
  unfold sliceArr
  by_cases e : m = l
  · subst e
    rw [if_pos rfl, show m.beq m = true from Nat.beq_refl m, show h - m = 0 by omega, show m - m = 0 by omega]
    exact .empty rfl
  · rw [if_neg e, show m.beq l = false by rw [beq_tf]; simp [e], addr_add, addr_add]
    have := VR.slice (P := P) (s := 0) (o := o + l * size) (n := h - l) (c := m - l) (c' := m - l) hg (by omega) (Nat.le_refl _) (.inl rfl)
    rw [show o + l * size + g.shift = o + g.shift + l * size by omega] at this
    exact this
theorem OR.isNone {o o' : Option Value} (h : OR P ρ o o') : o'.isNone = o.isNone := by
  cases o with
  | none => rw [h.none_ rfl]
  | some v => obtain ⟨v', rfl, _⟩ := h.some_ v rfl; rfl
theorem sliceRow_sound (hR : Rel P ρ σ w) {elem e : TypeId} {size len cap l h m n : Nat} {c : Tr Value} {gr ro : Bool} {a : Addr} {x' : Value} {max : Option Value} (hsz : sizeOf' P elem = some size)
    (hx : VR P ρ (.slice (some a) len cap) x') (hsp : a.spot = none) (hg : σ.get a.block = some (.cells n c e gr ro)) (he : gr = true → e = elem) (h1 : l ≤ h) (h2 : h ≤ m) (h3 : m ≤ cap) (h4 : max = none → m = cap) :
    ∃ a' cap', x' = .slice (some a') len cap' ∧ cap ≤ cap' ∧ VR P ρ (sliceRow size l h m max.isSome gr a) (.slice (if (if max.isNone then cap' else m) = l then some a' else (some a').map (·.add (l * size))) (h - l) ((if max.isNone then cap' else m) - l)) := by
  obtain ⟨im, him, hel, hgr, _⟩ := hR.obj _ _ hg
  obtain ⟨b, o, sp⟩ := a
  simp only at hsp him; subst hsp
  rcases hx.slice_inv with ⟨m2, c', s, _, hm2, hn, hc, hz, rfl⟩ | ⟨m2, a', _, hm2, hg2, rfl, rfl, rfl⟩ | ⟨k, a', hk, _⟩
  · simp only at hm2 hz ⊢
    rw [him] at hm2; cases hm2
    refine ⟨_, c', rfl, hc, ?_⟩
    have hsame : gr = true → ∀ s', sizeOf' P im.elem = some s' → s' = size := fun hgt s' hs' => by
      rw [hel, he hgt, hsz] at hs'; cases hs'; rfl
    unfold sliceRow
    by_cases e : m = l
    · subst e
      have eh : h - m = 0 := by omega
      rw [show m.beq m = true from Nat.beq_refl m, eh]
      cases max with
      | some u =>
        simp only [Option.isSome_some, Bool.true_or, Option.isNone_some, Bool.false_eq_true, if_false, if_true, Nat.sub_self]
        exact .empty rfl
      | none =>
        have hmc := h4 rfl
        simp only [Option.isSome_none, Bool.false_or, Option.isNone_none, if_true]
        cases hgv : gr with
        | false =>
          have hcc : cap = c' := by
            rcases hz with hz | ⟨hz, _⟩
            · exact hz
            · rw [hgr, hgv] at hz; cases hz
          simp only [Bool.not_false]
          rw [if_pos (by omega), show c' - m = 0 by omega]
          exact .empty rfl
        | true =>
          simp only [Bool.not_true]
          by_cases ec : c' = m
          · rw [if_pos ec, show c' - m = 0 by omega, addr_add]
            exact .tail him (by rw [hgr, hgv])
          · rw [if_neg ec]
            simp only [Option.map_some, addr_add]
            obtain ⟨_, hs', hb⟩ := hz.resolve_left (by omega)
            have es := hsame hgv s hs'
            subst es
            have hmul : c' * s = m * s + (c' - m) * s := by rw [← Nat.add_mul]; congr 1; omega
            have := VR.slice (P := P) (s := s) (o := o + m * s) (n := 0) (c := 0) (c' := c' - m) him (Nat.le_refl _) (Nat.zero_le _) (.inr ⟨by rw [hgr, hgv], hs', by omega⟩)
            rw [show o + m * s + im.shift = o + im.shift + m * s by omega] at this
            exact this
    · rw [show m.beq l = false by rw [beq_tf]; simp [e], addr_add]
      cases max with
      | some u =>
        simp only [Option.isNone_some, Bool.false_eq_true, if_false]
        rw [if_neg e]
        simp only [Option.map_some, addr_add]
        have := VR.slice (P := P) (s := 0) (o := o + l * size) (n := h - l) (c := m - l) (c' := m - l) him (by omega) (Nat.le_refl _) (.inl rfl)
        rw [show o + l * size + im.shift = o + im.shift + l * size by omega] at this
        exact this
      | none =>
        have hmc := h4 rfl
        simp only [Option.isNone_none, if_true]
        rw [if_neg (by omega)]
        simp only [Option.map_some, addr_add]
        have hz' : m - l = c' - l ∨ (im.grown = true ∧ sizeOf' P im.elem = some s ∧ o + l * size + im.shift + (c' - l) * s ≤ im.rows) := by
          rcases hz with hz | ⟨hg3, hs', hb⟩
          · exact .inl (by omega)
          · right
            have es := hsame (by rw [← hgr]; exact hg3) s hs'
            subst es
            have hmul : c' * s = l * s + (c' - l) * s := by rw [← Nat.add_mul]; congr 1; omega
            exact ⟨hg3, hs', by omega⟩
        have := VR.slice (P := P) (s := s) (o := o + l * size) (n := h - l) (c := m - l) (c' := c' - l) him (by omega) (by omega) hz'
        rw [show o + l * size + im.shift = o + im.shift + l * size by omega] at this
        exact this
  · simp only at hm2
    rw [him] at hm2; cases hm2
    refine ⟨a', 0, rfl, Nat.le_refl _, ?_⟩
    obtain rfl : m = 0 := by omega
    obtain rfl : h = 0 := by omega
    obtain rfl : l = 0 := by omega
    have hgt : gr = true := by rw [← hgr]; exact hg2
    unfold sliceRow
    rw [show Nat.beq 0 0 = true from rfl]
    cases max with
    | some u => simp only [Option.isSome_some, Bool.true_or, Option.isNone_some, Bool.false_eq_true, if_false, if_true, Nat.sub_self]; exact .empty rfl
    | none => rw [hgt]; simp only [Option.isSome_none, Bool.false_or, Option.isNone_none, if_true, Bool.not_true, Nat.sub_self]; rw [addr_add]; exact .tail him hg2
  · simp at hk
theorem sliceOp_out {t : TypeId} {x x' v : Value} {low high max low' high' max' : Option Value} (h : sliceOp P t x low high max σ = some v) (hR : Rel P ρ σ w) (hx : VR P ρ x x')
    (hl : OR P ρ low low') (hh : OR P ρ high high') (hm : OR P ρ max max') : OutV D P ρ σ w v σ ((Instr.sliceAt t x' low' high' max').run P w) := by
  unfold sliceOp at h
  split at h
  · rename_i hu
    split at h
    · rename_i s
      rw [hx.string_inv, hm.none_ rfl]
      split at h
      · rename_i l hi mm hb
        cases h
        obtain ⟨_, _, _, _, hrun⟩ := bounds_sound (w := w) (isSlice := false) hb (Nat.le_refl _) (Nat.le_refl _) hl hh hm
        rw [hm.none_ rfl] at hrun
        refine .same hR (v' := _) (.atom rfl) ?_
        simp only [Instr.sliceAt, Sem.run_bind, run_under hu, Result.andThen_ok, Instr.slice]
        simp [hrun, extract_mk]
      · cases h
    · cases h
  · rename_i elem hu
    split at h
    · rename_i a len cap size hs
      split at h
      · rename_i l hi mm hle hb
        have hle := Nat.le_of_ble_eq_true hle
        split at h
        · cases h
          rw [hx.atom_inv rfl]
          obtain ⟨_, _, _, hmn, hrun⟩ := bounds_sound (w := w) (isSlice := true) hb hle (Nat.le_refl _) hl hh hm
          refine .same hR (v' := .slice none (hi - l) (mm - l)) (.atom rfl) ?_
          simp only [Instr.sliceAt, Sem.run_bind, run_under hu, Result.andThen_ok, Instr.slice, hrun, info_size hs, Sem.run_pure]
          cases max with
          | none => rw [hmn rfl]; simp
          | some u => simp
        · rename_i a
          split at h
          · rename_i k hk
            cases h
            rcases hx.slice_inv with ⟨_, _, _, hn, _⟩ | ⟨_, _, hn, _⟩ | ⟨k', a', _, rfl, rfl, rfl⟩
            · rw [hk] at hn; cases hn
            · rw [hk] at hn; cases hn
            · obtain ⟨h1, h2, h3, h4, hrun⟩ := bounds_sound (w := w) (isSlice := true) hb hle (Nat.le_refl _) hl hh hm
              refine .same hR (v' := .slice (some a') 0 0) (.empty rfl) ?_
              simp only [Instr.sliceAt, Sem.run_bind, run_under hu, Result.andThen_ok, Instr.slice, hrun, info_size hs, Sem.run_pure]
              obtain rfl : mm = 0 := by omega
              obtain rfl : hi = 0 := by omega
              obtain rfl : l = 0 := by omega
              simp
          · rename_i hsp
            split at h
            · rename_i n c e g ro hg
              split at h
              · rename_i hc
                cases h
                have hcap : ∃ cap', cap ≤ cap' ∧ ∃ a', x' = .slice (some a') len cap' := by
                  rcases hx.slice_inv with ⟨m2, c', s, _, _, _, hc, _, rfl⟩ | ⟨m2, a', _, _, _, rfl, rfl, rfl⟩ | ⟨k, a', hk, _⟩
                  · exact ⟨c', hc, _, rfl⟩
                  · exact ⟨0, Nat.le_refl _, _, rfl⟩
                  · rw [hsp] at hk; cases hk
                obtain ⟨cap', hcc, a', rfl⟩ := hcap
                obtain ⟨h1, h2, h3, h4, hrun⟩ := bounds_sound (w := w) (isSlice := true) hb hle hcc hl hh hm
                obtain ⟨a2, cap2, e2, _, hv⟩ := sliceRow_sound (max := max) hR hs hx hsp hg (fun hgt => by rw [hgt] at hc; simp at hc; exact hc) h1 h2 h3 h4
                cases e2
                refine .same hR hv ?_
                simp only [Instr.sliceAt, Sem.run_bind, run_under hu, Result.andThen_ok, Instr.slice, hrun, info_size hs, Sem.run_pure]
              · cases h
            · cases h
      · cases h
    · cases h
  · rename_i n elem hu
    split at h
    · rename_i a size hs
      split at h
      · rename_i l hi mm hb
        cases h
        obtain ⟨m2, hm2, hsp, rfl⟩ := hx.ptr_inv
        obtain ⟨b, o, sp⟩ := a
        simp only at hm2 hsp; subst hsp
        obtain ⟨h1, h2, h3, h4, hrun⟩ := bounds_sound (w := w) (isSlice := false) hb (Nat.le_refl _) (Nat.le_refl _) hl hh hm
        have hmm : (if max.isNone then n else mm) = mm := by cases max with | none => rw [h4 rfl]; rfl | some u => rfl
        rw [hmm] at hrun
        refine .same hR (sliceArr_sound hm2 h1 h2) ?_
        simp only [Instr.sliceAt, Sem.run_bind, run_under hu, Result.andThen_ok, Instr.sureAddr, Sem.run_pure, hrun, info_size hs]
      · cases h
    · cases h
  · rename_i arr hu
    split at h
    · rename_i n elem hu2
      split at h
      · rename_i a size hs
        split at h
        · rename_i l hi mm hb
          cases h
          obtain ⟨m2, hm2, hsp, rfl⟩ := hx.ptr_inv
          obtain ⟨b, o, sp⟩ := a
          simp only at hm2 hsp; subst hsp
          obtain ⟨h1, h2, h3, h4, hrun⟩ := bounds_sound (w := w) (isSlice := false) hb (Nat.le_refl _) (Nat.le_refl _) hl hh hm
          have hmm : (if max.isNone then n else mm) = mm := by cases max with | none => rw [h4 rfl]; rfl | some u => rfl
          rw [hmm] at hrun
          refine .same hR (sliceArr_sound hm2 h1 h2) ?_
          simp only [Instr.sliceAt, Sem.run_bind, run_under hu, Result.andThen_ok, Instr.slice, asAddr, Sem.run_pure, run_under hu2, hrun, info_size hs]
        · cases h
      · cases h
    · cases h
  · cases h
end Go.AE
end
/- Making, loading, storing; conversions; lengths. -/
section
set_option linter.all false
namespace Go.AE
variable {D : Prop} {P : Program} {ρ : Ren} {σ : AHeap} {w : World}

theorem typeAssert_out {x x' v : Value} {xt asserted : TypeId} {ok : Bool} (h : typeAssert' P x asserted ok = some v) (hR : Rel P ρ σ w) (hx : VR P ρ x x') : OutV D P ρ σ w v σ ((Instr.typeAssert x' xt asserted ok).run P w) := by
  have hfail : ∀ (s d : Option TypeId) (m : String), (if ok then (zeroOf P asserted).map fun z => Value.tuple #[z, .bool false] else none) = some v →
      ∃ z, zeroOf P asserted = some z ∧ ok = true ∧ v = .tuple #[z, .bool false] := by
    intro _ _ _ e
    cases ok with
    | false => simp at e
    | true =>
      simp only [if_true] at e
      cases hz : zeroOf P asserted with
      | none => rw [hz] at e; simp at e
      | some z => rw [hz] at e; simp at e; exact ⟨z, rfl, rfl, e.symm⟩
  have hz2 : ∀ z, zeroOf P asserted = some z → VR P ρ (.tuple #[z, .bool false]) (.tuple #[z, .bool false]) := fun z hz =>
    VR.tuple_iff (.cons (VR.of_plain (zeroOf_info hz).2) (.cons (.atom rfl) .nil))
  have hold : ∀ u u', VR P ρ u u' → VR P ρ (if ok then .tuple #[u, .bool true] else u) (if ok then .tuple #[u', .bool true] else u') := fun u u' hu => by
    cases ok with
    | true => exact VR.tuple_iff (.cons hu (.cons (.atom rfl) .nil))
    | false => exact hu
  unfold typeAssert' at h
  dsimp only at h
  split at h
  · rename_i ms hu
    rw [hx.atom_inv rfl]
    obtain ⟨z, hz, rfl, rfl⟩ := hfail none none "" h
    exact .same hR (hz2 z hz) (by simp [Instr.typeAssert, run_under hu, info_zero hz])
  · rename_i want t u hu
    obtain ⟨u', rfl, hv⟩ := hx.iface_inv
    split at h
    · rename_i i hi
      split at h
      · rename_i hmm
        cases h
        exact .same hR (hold _ _ hx) (by simp [Instr.typeAssert, run_under hu, typeInfo, hi, hmm])
      · rename_i m hmm
        obtain ⟨z, hz, rfl, rfl⟩ := hfail none none "" h
        exact .same hR (hz2 z hz) (by simp [Instr.typeAssert, run_under hu, typeInfo, hi, hmm, info_zero hz])
    · cases h
  · rename_i d hni hu
    rw [hx.atom_inv rfl]
    obtain ⟨z, hz, rfl, rfl⟩ := hfail none none "" h
    refine .same hR (hz2 z hz) ?_
    cases d <;> first | (exact absurd rfl (hni _)) | simp [Instr.typeAssert, run_under hu, info_zero hz]
  · rename_i d t u hni hu
    obtain ⟨u', rfl, hv⟩ := hx.iface_inv
    split at h
    · rename_i ht
      cases h
      refine .same hR (hold _ _ hv) ?_
      cases d <;> first | (exact absurd rfl (hni _)) | simp [Instr.typeAssert, run_under hu, ht]
    · rename_i ht
      obtain ⟨z, hz, rfl, rfl⟩ := hfail none none "" h
      refine .same hR (hz2 z hz) ?_
      cases d <;> first | (exact absurd rfl (hni _)) | simp [Instr.typeAssert, run_under hu, ht, info_zero hz]
  · cases h
theorem makeInterface_out {x x' : Value} {t : TypeId} {d : TypeDesc} (hu : P.underlying t = some d) (hd : ∀ ms, d ≠ .interface ms) (hR : Rel P ρ σ w) (hx : VR P ρ x x') : OutV D P ρ σ w (.iface t x) σ ((Instr.makeInterface t x').run P w) := by
  refine .same hR (.iface hx) ?_
  cases d <;> first | (exact absurd rfl (hd _)) | simp [Instr.makeInterface, run_under hu]
theorem extract_out {x x' v : Value} {i : Nat} {vs : Array Value} (hx0 : x = .tuple vs) (h : vs[i]? = some v) (hR : Rel P ρ σ w) (hx : VR P ρ x x') : OutV D P ρ σ w v σ ((Instr.extract x' i).run P w) := by
  subst hx0
  obtain ⟨vs', rfl, hl⟩ := hx.tuple_inv
  obtain ⟨v', hv', hr⟩ := hl.get (i := i) (v := v) (by simpa using h)
  exact .same hR hr (by simp only [Instr.extract]; rw [show vs'[i]? = some v' by simpa using hv']; rfl)

/-! Making. -/
theorem run_newRow (e : TypeId) (cs : Array Value) : (newRow e cs).run P w = .ok ⟨w.heap.size, 0, none⟩ (w.alloc (.cells cs e)) := by
  simp [newRow]
theorem new_out (hR : Rel P ρ σ w) (e : TypeId) {vs : List Value} {cs : Array Value} (hl : LR P ρ vs cs.toList) (g : Bool) :
    ∃ ρ', VR P ρ' (ptr (newCells σ e vs g).1 0) (.pointer (some ⟨w.heap.size, 0, none⟩)) ∧ Rel P ρ' (newCells σ e vs g).2 (w.alloc (.cells cs e)) ∧ Ext D ρ σ w ρ' (newCells σ e vs g).2 (w.alloc (.cells cs e)) ∧
      ρ' (newCells σ e vs g).1 = some ⟨w.heap.size, 0, e, cs.size, g⟩ := by
  obtain ⟨h1, h2⟩ := hR.newCells e g hl [] (0, 0) (thaw_zero _)
  simp only [List.append_nil, Array.toArray_toList] at h1 h2
  exact ⟨_, .ptr' Ren.add_same rfl, h1, h2, by rw [show cs.size = cs.toList.length by simp]; exact Ren.add_same⟩
theorem alloc_out {e : TypeId} {z : Value} (hz : zeroOf P e = some z) (hR : Rel P ρ σ w) : OutV D P ρ σ w (ptr (newCells σ e z.cells.toList).1 0) (newCells σ e z.cells.toList).2 ((Instr.alloc e true (.tuple #[])).run P w) := by
  obtain ⟨ρ', h1, h2, h3, _⟩ := new_out hR e (VR.of_plain (P := P) (ρ := ρ) (zeroOf_info hz).2).cells false
  exact ⟨ρ', _, _, by simp [Instr.alloc, info_zero hz, newVar, run_newRow], h1, h2, h3⟩
theorem box_out {e : TypeId} {x x' : Value} (hR : Rel P ρ σ w) (hx : VR P ρ x x') : OutV D P ρ σ w (ptr (newCells σ e x.cells.toList).1 0) (newCells σ e x.cells.toList).2 ((Instr.box e x').run P w) := by
  obtain ⟨ρ', h1, h2, h3, _⟩ := new_out hR e hx.cells false
  exact ⟨ρ', _, _, by simp [Instr.box, newVar, run_newRow], h1, h2, h3⟩
theorem slice_new {b n c e : Nat} {g : Bool} {rows : Nat} {k : Nat} {ρ' : Ren} (h : ρ' b = some ⟨k, 0, e, rows, g⟩) (hn : n ≤ c) : VR P ρ' (.slice (some ⟨b, 0, none⟩) n c) (.slice (some ⟨k, 0, none⟩) n c) := by
  have := VR.slice (P := P) (s := 0) (o := 0) (n := n) (c := c) (c' := c) h hn (Nat.le_refl _) (.inl rfl)
  simpa using this
theorem zerosN_length (z : List Value) : ∀ n, (zerosN z n).length = n * z.length
  | 0 => by simp [zerosN]
  | n + 1 => by rw [zerosN, List.length_append, zerosN_length z n, Nat.add_mul]; omega
theorem zerosN_get (z : List Value) : ∀ (n i : Nat), i < n * z.length → (zerosN z n)[i]? = z[i % z.length]?
  | 0, i, h => by simp at h
  | n + 1, i, h => by
    rw [zerosN, List.getElem?_append]
    by_cases hi : i < z.length
    · rw [if_pos hi, Nat.mod_eq_of_lt hi]
    · have h' : i < n * z.length + z.length := by rw [Nat.add_mul, Nat.one_mul] at h; exact h
      rw [if_neg hi, zerosN_get z n (i - z.length) (by omega)]
      rw [← Nat.mod_eq_sub_mod (by omega)]
theorem zeros_map (z : Value) (n : Nat) : (zerosN z.cells.toList n) = ((Array.range (n * z.cells.size)).map fun i => z.cells[i % z.cells.size]!).toList := by
  apply List.ext_getElem?
  intro i
  by_cases h : i < n * z.cells.size
  · rw [zerosN_get _ _ _ (by simpa using h)]
    have hp : 0 < z.cells.size := by rcases Nat.eq_zero_or_pos z.cells.size with e | e; · rw [e] at h; simp at h
                                     · exact e
    have hm := Nat.mod_lt i hp
    simp only [Array.toList_map, Array.toList_range, List.getElem?_map, List.getElem?_range h, Option.map_some, Array.length_toList]
    rw [List.getElem?_eq_getElem (by simpa using hm)]
    simp [getElem!_pos, hm]
  · rw [List.getElem?_eq_none (by rw [zerosN_length]; simpa using h), List.getElem?_eq_none (by simpa using h)]
end Go.AE
end
/- Loading, storing, rows made, appending, copying. -/
section
set_option linter.all false
namespace Go.AE
variable {D : Prop} {P : Program} {ρ : Ren} {σ : AHeap} {w : World}

theorem elemOk_spec {e size : Nat} {zs : List Value} (h : elemOk P e = some (size, zs)) : ∃ i z, P.info? e = some i ∧ i.zero = some z ∧ plain z = true ∧ z.cells.size = i.size ∧ i.bytes ≤ 1048576 ∧ size = i.size ∧ zs = z.cells.toList := by
  unfold elemOk at h
  split at h
  · rename_i i hi
    split at h
    · rename_i z hz
      split at h
      · rename_i hb
        cases h
        simp only [Bool.and_eq_true, beq_tf, decide_eq_true_eq, Nat.ble_eq] at hb
        exact ⟨i, z, hi, hz, hb.1.1, hb.1.2, hb.2, rfl, rfl⟩
      · cases h
    · cases h
  · cases h
theorem zeros_LR' {z : Value} (hz : plain z = true) (n : Nat) : LR P ρ (zerosN z.cells.toList n) (zerosN z.cells.toList n) := by
  have h := (VR.of_plain (P := P) (ρ := ρ) hz).cells
  induction n with
  | zero => exact .nil
  | succ n ih => exact h.append ih
/-- The zero cells as the model makes them. -/
theorem run_zeroRow {e : TypeId} {i : TypeInfo} {z : Value} (hi : P.info? e = some i) (hz : i.zero = some z) (hsz : z.cells.size = i.size) (n : Nat) :
    ∃ zc : Array Value, (n * i.size = 0 ∧ zc = #[] ∨ n * i.size ≠ 0 ∧ zc = z.cells ∧ (zeroValue e).run P w = .ok z w) ∧ ((Array.range (n * i.size)).map fun k => zc[k % zc.size]!).toList = zerosN z.cells.toList n := by
  by_cases h : n * i.size = 0
  · refine ⟨#[], .inl ⟨h, rfl⟩, ?_⟩
    have hl : (zerosN z.cells.toList n).length = 0 := by rw [zerosN_length, Array.length_toList, hsz, h]
    rw [h, List.eq_nil_of_length_eq_zero hl]
    simp
  · refine ⟨z.cells, .inr ⟨h, rfl, by simp [zeroValue, typeInfo, hi, hz]⟩, ?_⟩
    rw [zeros_map, hsz]
theorem run_size {e : TypeId} {i : TypeInfo} (hi : P.info? e = some i) : (sizeOf e).run P w = .ok i.size w := by simp [sizeOf, typeInfo, hi]
theorem wrap_small (n : Nat) (h : n ≤ 1048576) : IntKind.i64.wrap (n : Int) = n := by
  have hb : IntKind.i64.bits = 64 := rfl
  have hs : IntKind.i64.signed = true := rfl
  unfold IntKind.wrap
  rw [hb, hs]
  have hm : (n : Int) % (2 ^ 64 : Int) = n := Int.emod_eq_of_lt (by omega) (by omega)
  simp only [hm]
  rw [if_neg (by simp; omega)]

theorem load_out {t : TypeId} {b off : Nat} {x' v : Value} (h : ldVar P t σ b off = some v) (hR : Rel P ρ σ w) (hx : VR P ρ (.pointer (some ⟨b, off, none⟩)) x') : OutV D P ρ σ w v σ ((Instr.loadAt t x').run P w) := by
  obtain ⟨m, hm, _, rfl⟩ := hx.ptr_inv
  obtain ⟨v', hr, hv⟩ := hR.ldVar h hm
  exact .same hR hv (by simp only [Instr.loadAt, Sem.run_bind, Instr.sureAddr, Sem.run_pure, Result.andThen_ok]; exact hr)
theorem store_out {t : TypeId} {b off n : Nat} {a' v v' : Value} {σ' : AHeap} (hn : sizeOf' P t = some n) (hsz : v.cells.size = n) (h : stCells σ b off v.cells.toList = some σ') (hR : Rel P ρ σ w) (ha : VR P ρ (.pointer (some ⟨b, off, none⟩)) a') (hv : VR P ρ v v') :
    OutU D P ρ σ w σ' ((Instr.storeAt t a' v').run P w) := by
  obtain ⟨m, hm, _, rfl⟩ := ha.ptr_inv
  obtain ⟨w', hr, hR', hE⟩ := hR.stCells h hm hv.cells
  have hl : v'.cells.size = n := by have := hv.cells.len; simp only [Array.length_toList] at this; omega
  refine ⟨ρ, w', ?_, hR', hE⟩
  simp only [Instr.storeAt, storeVar, Sem.run_bind, Instr.sureAddr, Sem.run_pure, Result.andThen_ok, info_size hn]
  rw [if_neg (by simp [hl])]
  exact hr
theorem buildSlice_run {t elem size len : Nat} {z : List Value} {parts : List (Nat × Value)} {parts' : Array (Nat × Value)} {cs : List Value} (hu : P.underlying t = some (.slice elem)) (he : elemOk P elem = some (size, z)) (hle : len * size ≤ 1048576)
    (hf : fill' (fun i => some (i * size, size)) (zerosN z len) parts = some cs) (hi : parts.map (·.1) = parts'.toList.map (·.1)) (hv : LR P ρ (parts.map (·.2)) (parts'.toList.map (·.2))) :
    ∃ r' : Array Value, LR P ρ cs r'.toList ∧ (Instr.buildSlice t len parts').run P w = .ok (.slice (some ⟨w.heap.size, 0, none⟩) len len) (w.alloc (.cells r' elem)) := by
  obtain ⟨i, zv, hi1, hz, hpl, hzs, hby, rfl, rfl⟩ := elemOk_spec he
  obtain ⟨zc, hzr, hzl⟩ := run_zeroRow (w := w) hi1 hz hzs len
  obtain ⟨r', hr', hlr⟩ := fill_sound parts parts'.toList _ _ cs hf (by rw [← hzl]; exact hzl ▸ zeros_LR' hpl len) hi hv
  refine ⟨r', hlr, ?_⟩
  simp only [Instr.buildSlice, Sem.run_bind, run_under hu, Result.andThen_ok, run_size hi1]
  rw [if_neg (by omega)]
  rcases hzr with ⟨h0, rfl⟩ | ⟨h0, rfl, hzv⟩
  · rw [if_pos h0]
    simp only [Sem.run_bind, Sem.run_pure, Result.andThen_ok, hr', run_newRow]
  · rw [if_neg h0]
    simp only [Sem.run_bind, Sem.run_pure, Result.andThen_ok, hzv, hr', run_newRow]
theorem buildSlice_out {t elem size len : Nat} {z : List Value} {parts : List (Nat × Value)} {parts' : Array (Nat × Value)} {cs : List Value} (hu : P.underlying t = some (.slice elem)) (he : elemOk P elem = some (size, z)) (hle : len * size ≤ 1048576)
    (hf : fill' (fun i => some (i * size, size)) (zerosN z len) parts = some cs) (hR : Rel P ρ σ w) (hi : parts.map (·.1) = parts'.toList.map (·.1)) (hv : LR P ρ (parts.map (·.2)) (parts'.toList.map (·.2))) :
    OutV D P ρ σ w (.slice (some ⟨(newCells σ elem cs).1, 0, none⟩) len len) (newCells σ elem cs).2 ((Instr.buildSlice t len parts').run P w) := by
  obtain ⟨r', hlr, hrun⟩ := buildSlice_run (ρ := ρ) (w := w) hu he hle hf hi hv
  obtain ⟨ρ', h1, h2, h3, h4⟩ := new_out hR elem hlr false
  exact ⟨ρ', .slice (some ⟨w.heap.size, 0, none⟩) len len, _, hrun, slice_new h4 (Nat.le_refl _), h2, h3⟩
theorem makeSlice_out {t elem size l c : Nat} {z : List Value} {vl vc : Value} {kl kc : IntKind} (hu : P.underlying t = some (.slice elem)) (he : elemOk P elem = some (size, z)) (hl : vl = .int kl (l : Int)) (hc : vc = .int kc (c : Int)) (h1 : l ≤ c) (h2 : c ≤ 1048576) (hR : Rel P ρ σ w) :
    OutV D P ρ σ w (.slice (some ⟨(newCells σ elem (zerosN z c)).1, 0, none⟩) l c) (newCells σ elem (zerosN z c)).2 ((Instr.makeSlice t vl vc).run P w) := by
  obtain ⟨i, zv, hi1, hz, hpl, hzs, hby, rfl, rfl⟩ := elemOk_spec he
  obtain ⟨zc, hzr, hzl⟩ := run_zeroRow (w := w) hi1 hz hzs c
  obtain ⟨ρ', g1, g2, g3, g4⟩ := new_out hR elem (cs := ((Array.range (c * i.size)).map fun k => zc[k % zc.size]!)) (by rw [hzl]; exact zeros_LR' hpl c) false
  subst hl; subst hc
  refine ⟨ρ', .slice (some ⟨w.heap.size, 0, none⟩) l c, _, ?_, slice_new g4 h1, g2, g3⟩
  have hmul : i.bytes * c ≤ 1048576 * 1048576 := Nat.mul_le_mul hby h2
  have hb : ¬ ((c : Int) < 0 ∨ (i.bytes : Int) * c > 2 ^ 48) := by
    have : ((i.bytes * c : Nat) : Int) ≤ ((1048576 * 1048576 : Nat) : Int) := Int.ofNat_le.2 hmul
    rw [Int.natCast_mul] at this
    omega
  simp only [Instr.makeSlice, Sem.run_bind, run_under hu, Result.andThen_ok, asInt, run_asIntOf, Sem.run_pure, typeInfo, run_program, hi1, wrap_small l (by omega), wrap_small c h2]
  rw [if_neg (by simp; omega)]
  simp only [Sem.run_bind, run_askRoom, Result.andThen_ok, Int.toNat_natCast, run_size hi1]
  rcases hzr with ⟨h0, rfl⟩ | ⟨h0, rfl, hzv⟩
  · rw [if_pos h0]
    simp only [Sem.run_bind, Sem.run_pure, Result.andThen_ok, run_newRow]
  · rw [if_neg h0]
    simp only [Sem.run_bind, Sem.run_pure, Result.andThen_ok, hzv, run_newRow]

/-! The first cells of a slice or a string. -/
theorem lenOf_sound {x x' : Value} {n : Nat} (h : lenOf' x = some n) (hx : VR P ρ x x') : (Builtin.lenOf x').run P w = .ok n w := by
  unfold lenOf' at h
  split at h
  · cases h
    rename_i a c
    cases a with
    | none => rw [hx.atom_inv rfl]; rfl
    | some a => rcases hx.slice_inv with ⟨m, c', s, _, _, _, _, _, rfl⟩ | ⟨m, a', _, _, _, rfl, rfl, rfl⟩ | ⟨k, a', _, rfl, rfl, rfl⟩ <;> rfl
  · cases h; rw [hx.string_inv]; rfl
  · cases h
theorem Rel.first (hR : Rel P ρ σ w) {size n : Nat} {x x' : Value} {cs : List Value} (h : firstCells' size n σ x = some cs) (hx : VR P ρ x x') (hn : ∀ k, lenOf' x = some k → n ≤ k) :
    ∃ cs', LR P ρ cs cs' ∧ (Builtin.firstCells size n x').run P w = .ok cs'.toArray w := by
  unfold firstCells' at h
  split at h
  · rename_i a k c
    have hk := hn k rfl
    rcases hx.slice_inv with ⟨m, c', s, hsp, hm, hnc, hc, hz, rfl⟩ | ⟨m, a', _, _, _, rfl, rfl, rfl⟩ | ⟨q, a', _, rfl, rfl, rfl⟩
    · obtain ⟨hl, cs', hlr, hat⟩ := hR.ldCells h hm
      refine ⟨cs', hlr, ?_⟩
      simp only [Builtin.firstCells]
      rw [show n * size = cs'.length by rw [← hlr.len]; exact hl.symm]
      exact run_loadCells' hat
    · obtain rfl : n = 0 := by omega
      rw [Nat.zero_mul] at h
      simp only [AE.ldCells, Option.some.injEq] at h
      subst h
      exact ⟨[], .nil, by simp [Builtin.firstCells, loadCells, loadCellsFrom]⟩
    · obtain rfl : n = 0 := by omega
      rw [Nat.zero_mul] at h
      simp only [AE.ldCells, Option.some.injEq] at h
      subst h
      exact ⟨[], .nil, by simp [Builtin.firstCells, loadCells, loadCellsFrom]⟩
  · cases h; rw [hx.atom_inv rfl]; exact ⟨[], .nil, rfl⟩
  · rename_i s
    cases h
    rw [hx.string_inv]
    refine ⟨_, .map fun b _ => .atom rfl, ?_⟩
    simp only [Builtin.firstCells, Sem.run_pure]
    congr 1
    apply Array.ext'
    rw [extract_mk]
    simp
  · cases h
theorem bytesOf_spec : ∀ (vs : List Value) (bs : List UInt8), bytesOf vs = some bs → ∃ ns : List Int, vs = ns.map (Value.int .u8) ∧ bs = ns.map fun n => UInt8.ofNat n.toNat
  | [], bs, h => by simp only [bytesOf, Option.some.injEq] at h; subst h; exact ⟨[], rfl, rfl⟩
  | v :: vs, bs, h => by
    cases v with
    | int k n =>
      cases k <;> simp only [bytesOf] at h <;> try (cases h; done)
      cases hb : bytesOf vs with
      | none => rw [hb] at h; simp at h
      | some r =>
        rw [hb] at h
        simp only [Option.map_some, Option.some.injEq] at h
        obtain ⟨ns, h1, h2⟩ := bytesOf_spec vs r hb
        subst h
        exact ⟨n :: ns, by simp [h1], by simp [h2]⟩
    | _ => simp [bytesOf] at h
theorem foldl_push (ns : List Int) : ∀ s : ByteArray, ns.foldl (fun r n => r.push (UInt8.ofNat n.toNat)) s = ⟨(s.data.toList ++ ns.map fun n => UInt8.ofNat n.toNat).toArray⟩ := by
  induction ns with
  | nil => intro s; simp
  | cons n ns ih =>
    intro s
    rw [List.foldl_cons, ih]
    congr 1
    simp [ByteArray.push]
end Go.AE
end
