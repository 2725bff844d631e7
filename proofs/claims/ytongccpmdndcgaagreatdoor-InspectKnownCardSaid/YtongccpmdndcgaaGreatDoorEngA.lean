/- A deterministic evaluator of the model's code over an abstract heap (definitions). -/
import GoSem.Dispatch
import GoSem.Machine.Return
import GoSem.Core.Region
namespace Go.AE
set_option linter.unusedVariables false
set_option linter.unusedSimpArgs false

/-- A trie of numbers. -/
inductive Tr (α : Type) where
  | leaf
  | node (l : Tr α) (v : Option α) (r : Tr α)

def Tr.get {α : Type} : Tr α → Nat → Option α
  | .leaf, _ => none
  | .node l v r, n => match n.beq 0 with
    | true => v
    | false => match (n % 2).beq 1 with
      | true => l.get (n / 2)
      | false => r.get (n / 2 - 1)

def Tr.putF {α : Type} : Nat → Tr α → Nat → Option α → Tr α
  | 0, t, _, _ => t
  | k + 1, .leaf, n, x => match n.beq 0 with
    | true => .node .leaf x .leaf
    | false => match (n % 2).beq 1 with
      | true => .node (putF k .leaf (n / 2) x) none .leaf
      | false => .node .leaf none (putF k .leaf (n / 2 - 1) x)
  | k + 1, .node l v r, n, x => match n.beq 0 with
    | true => .node l x r
    | false => match (n % 2).beq 1 with
      | true => .node (putF k l (n / 2) x) v r
      | false => .node l v (putF k r (n / 2 - 1) x)

def Tr.put {α : Type} (t : Tr α) (n : Nat) (x : Option α) : Tr α := Tr.putF (n + 1) t n x

def Tr.ofList {α : Type} : List α → Nat → Tr α → Tr α
  | [], _, t => t
  | x :: xs, n, t => ofList xs (n + 1) (t.put n (some x))

inductive AObj where
  /-- n cells; grown: born by an append (its true capacity is not known); ro: read only. -/
  | cells (n : Nat) (c : Tr Value) (elem : TypeId) (grown ro : Bool)
  | map (es : List MapEntry) (clock : Nat) (ro : Bool)
  | strIter (s : ByteArray) (pos : Nat)
  | mapIter (m : Option Nat) (since : Nat) (seen : List Nat) (stepped : Nat)
  deriving Inhabited

structure AHeap where
  next : Nat
  m : Tr AObj

structure AFr where
  n : Nat
  t : Tr Value

def AFr.at_ (fr : AFr) (t : Nat) : Value := (fr.t.get t).getD undef
def AFr.put (fr : AFr) (dst : Option Tmp) (v : Value) : AFr :=
  match dst with
  | none => fr
  | some d => match d.blt fr.n with
    | true => { fr with t := fr.t.put d (some v) }
    | false => fr
def AFr.eval (fr : AFr) : Operand → Value
  | .tmp t => fr.at_ t
  | .const v => v
  | .global g => .pointer (some ⟨g, 0, none⟩)
  | .func f => .func (.func f) #[] #[]

def AHeap.get (σ : AHeap) (b : Nat) : Option AObj := σ.m.get b
def AHeap.set (σ : AHeap) (b : Nat) (o : AObj) : AHeap := { σ with m := σ.m.put b (some o) }
def AHeap.drop (σ : AHeap) (b : Nat) : AHeap := { σ with m := σ.m.put b none }
def AHeap.new (σ : AHeap) (o : AObj) : Nat × AHeap := (σ.next, { next := σ.next + 1, m := σ.m.put σ.next (some o) })

/-- No address inside. -/
def plainF : Nat → Value → Bool
  | 0, _ => false
  | n + 1, v => match v with
    | .bool _ | .int .. | .float .. | .complex .. | .string _ | .pointer none | .slice none _ _ | .map none | .nilFunc | .nilIface => true
    | .iface _ v => plainF n v
    | .agg cs => cs.toList.all (plainF n)
    | .tuple cs => cs.toList.all (plainF n)
    | .func _ a b => a.toList.all (plainF n) && b.toList.all (plainF n)
    | _ => false
def plain (v : Value) : Bool := plainF 6 v

/-- Values without parts and without an address. -/
def atom : Value → Bool
  | .bool _ | .int .. | .float .. | .complex .. | .string _ | .pointer none | .slice none _ _ | .map none | .nilFunc | .nilIface => true
  | _ => false
def atomic : Option Value → Option Value
  | some v => match atom v with
    | true => some v
    | false => none
  | none => none

/-- A computation that asks the program alone. -/
def pureP {α : Type} (P : Program) : Sem α → Option α
  | .pure a => some a
  | .program k => pureP P (k P)
  | _ => none

def zeroOf (P : Program) (t : TypeId) : Option Value := match P.info? t with
  | some i => match i.zero with
    | some z => match plain z with
      | true => some z
      | false => none
    | none => none
  | none => none
def sizeOf' (P : Program) (t : TypeId) : Option Nat := (P.info? t).map (·.size)
def isAgg' (P : Program) (t : TypeId) : Option Bool := match P.underlying t with
  | some (.struct _) | some (.array _ _) => some true
  | some _ => some false
  | none => none

/-- One cell. -/
def ld (σ : AHeap) (b off : Nat) : Option Value := match σ.get b with
  | some (.cells _ c _ _ _) => c.get off
  | _ => none
def ldN (c : Tr Value) (off : Nat) : Nat → Option (List Value)
  | 0 => some []
  | n + 1 => match c.get off with
    | none => none
    | some v => match ldN c (off + 1) n with
      | none => none
      | some vs => some (v :: vs)
def ldCells (σ : AHeap) (b off n : Nat) : Option (List Value) := match n with
  | 0 => some []
  | n => match σ.get b with
    | some (.cells _ c _ _ _) => ldN c off n
    | _ => none
def ldVar (P : Program) (t : TypeId) (σ : AHeap) (b off : Nat) : Option Value := match isAgg' P t with
  | some true => match sizeOf' P t with
    | some n => (ldCells σ b off n).map fun vs => .agg vs.toArray
    | none => none
  | some false => ld σ b off
  | none => none

def single : Value → Bool
  | .agg _ | .tuple _ => false
  | _ => true
/-- Cells stored into a row. -/
def stN (c : Tr Value) (off : Nat) : List Value → Option (Tr Value)
  | [] => some c
  | v :: vs => match single v with
    | false => none
    | true => match c.get off with
      | none => none
      | some _ => stN (c.put off (some v)) (off + 1) vs
def stCells (σ : AHeap) (b off : Nat) (vs : List Value) : Option AHeap := match vs with
  | [] => some σ
  | vs => match σ.get b with
    | some (.cells n c e g false) => match stN c off vs with
      | some c' => some (σ.set b (.cells n c' e g false))
      | none => none
    | _ => none
def newCells (σ : AHeap) (elem : TypeId) (vs : List Value) (grown : Bool := false) : Nat × AHeap :=
  σ.new (.cells vs.length (Tr.ofList vs 0 .leaf) elem grown false)

def ptr (b off : Nat) : Value := .pointer (some ⟨b, off, none⟩)

/-- A part of cells. -/
def part' (P : Program) (t : TypeId) (cs : Array Value) (off : Nat) : Option Value := match isAgg' P t with
  | some true => (sizeOf' P t).map fun n => .agg (cs.extract off (off + n))
  | some false => cs[off]?
  | none => none

def fill' (place : Nat → Option (Nat × Nat)) (cells : List Value) : List (Nat × Value) → Option (List Value)
  | [] => some cells
  | (i, v) :: rest => match place i with
    | none => none
    | some (off, size) => match (v.cells.size.beq size) && (off + v.cells.size).ble cells.length with
      | false => none
      | true => fill' place (cells.take off ++ v.cells.toList ++ cells.drop (off + v.cells.size)) rest

def places (P : Program) : List Field → Option (List (Nat × Nat))
  | [] => some []
  | f :: fs => match sizeOf' P f.type, places P fs with
    | some n, some ps => some ((f.offset, n) :: ps)
    | _, _ => none
def build' (P : Program) (t : TypeId) (parts : List (Nat × Value)) : Option Value := match zeroOf P t, P.underlying t with
  | some z, some (.struct fields) => match places P fields.toList with
    | some ps => (fill' (fun i => ps[i]?) z.cells.toList parts).map fun cs => .agg cs.toArray
    | none => none
  | some z, some (.array _ elem) => match sizeOf' P elem with
    | some size => (fill' (fun i => some (i * size, size)) z.cells.toList parts).map fun cs => .agg cs.toArray
    | none => none
  | _, _ => none

def zerosN (z : List Value) : Nat → List Value
  | 0 => []
  | n + 1 => z ++ zerosN z n

def natOf : Value → Option Nat
  | .int _ (.ofNat n) => some n
  | _ => none

/-- Equality of what has no address inside, or of pointers that one side knows to be nil. -/
def eqV (P : Program) (t : TypeId) (x y : Value) : Option Bool := match x, y with
  | .pointer none, .pointer b => if (P.underlying t) matches some (.pointer _) then some b.isNone else none
  | .pointer (some _), .pointer none => if (P.underlying t) matches some (.pointer _) then some false else none
  | .slice none _ _, .slice b _ _ => if (P.underlying t) matches some (.slice _) then some b.isNone else none
  | .slice (some _) _ _, .slice none _ _ => if (P.underlying t) matches some (.slice _) then some false else none
  | .map none, .map b => if (P.underlying t) matches some (.map ..) then some b.isNone else none
  | .map (some _), .map none => if (P.underlying t) matches some (.map ..) then some false else none
  | .func .., .nilFunc => if (P.underlying t) matches some (.func ..) then some false else none
  | .nilFunc, .func .. => if (P.underlying t) matches some (.func ..) then some false else none
  | .nilIface, .iface .. => if (P.underlying t) matches some (.interface _) then some false else none
  | .iface .., .nilIface => if (P.underlying t) matches some (.interface _) then some false else none
  | x, y => if plain x && plain y then pureP P (Op.equal t x y) else none

/-- Words of letters compared (the model's own goes byte by byte over lists). -/
def strOp (op : BinOp) (x y : ByteArray) : Option Value :=
  let a := x.data.toList
  let b := y.data.toList
  match op with
  | .add => if ((x.size + y.size : Nat) : Int) > IntKind.i64.max then none else some (.string (ByteArray.mk (a ++ b).toArray))
  | .eql => some (.bool (a == b))
  | .neq => some (.bool !(a == b))
  | .lss => some (.bool (Op.bytesLess a b))
  | .leq => some (.bool (Op.bytesLess a b || a == b))
  | .gtr => some (.bool !(Op.bytesLess a b || a == b))
  | .geq => some (.bool !(Op.bytesLess a b))
  | _ => none

def isEq : BinOp → Bool
  | .eql | .neq => true
  | _ => false

def bin (P : Program) (op : BinOp) (t : TypeId) (x y : Operand) (a b : Value) : Option Value := match a, b with
  | .string s, .string u => strOp op s u
  | .int .., .int .. => atomic (pureP P (Go.binOp op t a b))
  | .float .., .float .. => atomic (pureP P (Go.binOp op t a b))
  | .complex .., .complex .. => none
  | a, b => match isEq op with
    | false => none
    | true =>
      let guard : Bool := match a, b with
        | .nilIface, .nilIface => (x matches .const _) || (y matches .const _)
        | .agg _, .agg _ => !P.eqGuardType P.depth t
        | _, _ => true
      match guard with
      | false => none
      | true => (eqV P t a b).map fun r => .bool (match op with | .eql => r | _ => !r)

def bytesOf : List Value → Option (List UInt8)
  | [] => some []
  | .int .u8 n :: vs => (bytesOf vs).map (UInt8.ofNat n.toNat :: ·)
  | _ => none

def lenOf' : Value → Option Nat
  | .slice _ n _ => some n
  | .string s => some s.size
  | _ => none
def firstCells' (size n : Nat) (σ : AHeap) : Value → Option (List Value)
  | .slice (some a) _ _ => ldCells σ a.block a.off (n * size)
  | .slice none _ _ => some []
  | .string s => some ((s.data.toList.take n).map fun b => .int .u8 b.toNat)
  | _ => none

def conv (P : Program) (src dst : TypeId) (x : Value) (σ : AHeap) : Option (Value × AHeap) := match P.underlying src, P.underlying dst with
  | some s, some d => match x with
    | .int .. => (atomic (pureP P (Go.convert src dst x))).map (·, σ)
    | .float .. => (atomic (pureP P (Go.convert src dst x))).map (·, σ)
    | .string u => match d with
      | .string => some (.string u, σ)
      | .slice e => match P.underlying e, sizeOf' P e with
        | some (.int .u8), some 1 =>
          let (b, σ) := newCells σ e (u.data.toList.map fun b => Value.int .u8 b.toNat) true
          some (.slice (some ⟨b, 0, none⟩) u.size u.size, σ)
        | _, _ => none
      | _ => none
    | .slice a n c => match s, d with
      | .slice _, .slice e => match a with
        | none => none
        | some a => match a.spot with
          | some _ => none
          | none => match src.beq dst && Nat.blt 0 c, P.underlying e, σ.get a.block with
            | true, some (.int .u8), some (.cells k cs e' g false) => some (.slice (some a) n c, σ.set a.block (.cells k cs e' g false))
            | _, _, _ => none
      | .slice e, .string => match P.underlying e with
        | some (.int .u8) => match firstCells' 1 n σ (.slice a n c) with
          | some vs => match bytesOf vs with
            | some bs => some (.string ⟨bs.toArray⟩, σ)
            | none => none
          | none => none
        | _ => none
      | _, _ => none
    | _ => none
  | _, _ => none

def ubound (v : Value) (y : Nat) : Option Nat := match natOf v with
  | some n => match n.ble y with
    | true => some n
    | false => none
  | none => none
def lowB (low : Option Value) (h m : Nat) : Option (Nat × Nat × Nat) := match low with
  | none => some (0, h, m)
  | some v => match ubound v h with
    | some l => some (l, h, m)
    | none => none
/-- The bounds of a slicing: low, high, the new capacity's end. -/
def bounds (len cap : Nat) (low high max : Option Value) : Option (Nat × Nat × Nat) := match max, high with
  | none, none => lowB low len cap
  | none, some v => match ubound v cap with
    | some h => lowB low h cap
    | none => none
  | some u, some v => match ubound u cap with
    | some m => match ubound v m with
      | some h => lowB low h m
      | none => none
    | none => none
  | some _, none => none

/-- The mark of an empty slice whose true capacity is 0. -/
def exactEmpty (a : Addr) : Value := .slice (some { a with spot := some 0 }) 0 0

/-- A slice's own slicing, its row known. -/
def sliceRow (size l h m : Nat) (told g : Bool) (a : Addr) : Value :=
  match m.beq l with
  | false => .slice (some (a.add (l * size))) (h - l) (m - l)
  | true => match told || !g with
    | true => exactEmpty a
    | false => .slice (some (a.add (l * size))) 0 0
def sliceArr (size l h m : Nat) (a : Addr) : Value :=
  match m.beq l with
  | false => .slice (some (a.add (l * size))) (h - l) (m - l)
  | true => exactEmpty a
def sliceOp (P : Program) (t : TypeId) (x : Value) (low high max : Option Value) (σ : AHeap) : Option Value := match P.underlying t with
  | some .string => match x, max with
    | .string s, none => match bounds s.size s.size low high none with
      | some (l, h, _) => some (.string ⟨((s.data.toList.take h).drop l).toArray⟩)
      | none => none
    | _, _ => none
  | some (.slice elem) => match x, sizeOf' P elem with
    | .slice a len cap, some size => match len.ble cap, bounds len cap low high max with
      | true, some (l, h, m) => match a with
        | none => some (.slice none (h - l) (m - l))
        | some a => match a.spot with
          | some _ => some (exactEmpty a)
          | none => match σ.get a.block with
            | some (.cells _ _ e g _) => match !g || e.beq elem with
              | true => some (sliceRow size l h m max.isSome g a)
              | false => none
            | _ => none
      | _, _ => none
    | _, _ => none
  | some (.array n elem) => match x, sizeOf' P elem with
    | .pointer (some a), some size => match bounds n n low high max with
      | some (l, h, m) => some (sliceArr size l h m a)
      | none => none
    | _, _ => none
  | some (.pointer arr) => match P.underlying arr with
    | some (.array n elem) => match x, sizeOf' P elem with
      | .pointer (some a), some size => match bounds n n low high max with
        | some (l, h, m) => some (sliceArr size l h m a)
        | none => none
      | _, _ => none
    | _ => none
  | _ => none

def idx (v : Value) (len : Nat) : Option Nat := (natOf v).bind fun n => if n < len then some n else none

def indexAddr (P : Program) (t : TypeId) (x ix : Value) : Option Value := match P.underlying t, x with
  | some (.array len elem), .pointer (some a) => match sizeOf' P elem, idx ix len with
    | some s, some i => some (.pointer (some (a.add (i * s))))
    | _, _ => none
  | some (.slice elem), .slice (some a) len _ => match a.spot, sizeOf' P elem, idx ix len with
    | none, some s, some i => some (.pointer (some (a.add (i * s))))
    | _, _, _ => none
  | _, _ => none
def indexVal (P : Program) (t : TypeId) (x ix : Value) : Option Value := match P.underlying t, x with
  | some (.array len elem), .agg cs => match sizeOf' P elem, idx ix len with
    | some s, some i => part' P elem cs (i * s)
    | _, _ => none
  | some .string, .string s => (idx ix s.size).bind fun i => (s.data.toList[i]?).map fun b => .int .u8 b.toNat
  | _, _ => none
def fieldAddr (P : Program) (s : TypeId) (x : Value) (i : Nat) : Option Value := match P.underlying s, x with
  | some (.struct fields), .pointer (some a) => match fields[i]? with
    | some f => match sizeOf' P f.type with
      | some (_ + 1) => some (.pointer (some (a.add f.offset)))
      | _ => none
    | none => none
  | _, _ => none
def fieldVal (P : Program) (t : TypeId) (x : Value) (i : Nat) : Option Value := match P.underlying t, x with
  | some (.struct fields), .agg cs => (fields[i]?).bind fun f => part' P f.type cs f.offset
  | _, _ => none

/-- Keys: plain ones alone. -/
def keyEq (P : Program) (kt : TypeId) (str : Bool) (k e : Value) : Option Bool := match str with
  | true => match k, e with
    | .string a, .string b => some (a.data.toList == b.data.toList)
    | _, _ => none
  | false => match plain k && plain e with
    | true => pureP P (Op.equal kt k e)
    | false => none
def findKey' (P : Program) (kt : TypeId) (str : Bool) (k : Value) : List MapEntry → Nat → Option (Option (Nat × MapEntry))
  | [], _ => some none
  | e :: es, i => match keyEq P kt str k e.key with
    | some true => some (some (i, e))
    | some false => findKey' P kt str k es (i + 1)
    | none => none
def isStr (P : Program) (kt : TypeId) : Bool := match P.underlying kt with
  | some .string => true
  | _ => false
def easyKey (P : Program) (kt : TypeId) : Bool := match P.underlying kt with
  | some .string => true
  | some (.int _) => true
  | some .bool => true
  | _ => false
def keyOk (P : Program) (kt : TypeId) (k : Value) : Bool := plain k && (easyKey P kt || ((match pureP P (Instr.checkKey false 10000 kt k) with | some _ => true | none => false) && (match pureP P (Instr.checkKey true 10000 kt k) with | some _ => true | none => false)))
def entriesOf (x : Value) (σ : AHeap) : Option (List MapEntry) := match x with
  | .map none => some []
  | .map (some r) => match σ.get r with
    | some (.map es _ _) => some es
    | _ => none
  | _ => none
def lookup' (P : Program) (t : TypeId) (x k : Value) (ok : Bool) (σ : AHeap) : Option Value := match P.underlying t with
  | some (.map kt et) => match keyOk P kt k, entriesOf x σ with
    | true, some es => match findKey' P kt (isStr P kt) k es 0 with
      | some (some (_, e)) => some (if ok then .tuple #[e.val, .bool true] else e.val)
      | some none => match zeroOf P et with
        | some z => some (if ok then .tuple #[z, .bool false] else z)
        | none => none
      | none => none
    | _, _ => none
  | _ => none
/-- The entry at a key, if it may be written. -/
def findW (P : Program) (kt : TypeId) (k : Value) (r : Nat) (σ : AHeap) : Option (List MapEntry × Nat × Option (Nat × MapEntry)) := match keyOk P kt k, σ.get r with
  | true, some (.map es clock false) => match findKey' P kt (isStr P kt) k es 0 with
    | some (some (i, e)) => match plain e.key && Instr.sameBits 10000 e.key k with
      | true => some (es, clock, some (i, e))
      | false => none
    | some none => some (es, clock, none)
    | none => none
  | _, _ => none
def mapPut (P : Program) (t : TypeId) (x k v : Value) (σ : AHeap) : Option AHeap := match P.underlying t, x with
  | some (.map kt _), .map (some r) => match findW P kt k r σ with
    | some (es, clock, some (i, _)) => some (σ.set r (.map (es.modify i fun e => { e with key := k, val := v }) clock false))
    | some (es, clock, none) => some (σ.set r (.map (es ++ [{ key := k, val := v, born := clock }]) (clock + 1) false))
    | none => none
  | _, _ => none
def mapEntry' (P : Program) (t : TypeId) (x k : Value) (σ : AHeap) : Option (Value × AHeap) := match P.underlying t, x with
  | some (.map kt et), .map (some r) => match findW P kt k r σ with
    | some (es, clock, some (i, e)) => some (.tuple #[e.val, goInt e.born], σ.set r (.map (es.modify i fun e => { e with key := k }) clock false))
    | some (es, clock, none) => match zeroOf P et with
      | some z => some (.tuple #[z, goInt clock], σ.set r (.map (es ++ [{ key := k, val := z, born := clock }]) (clock + 1) false))
      | none => none
    | none => none
  | _, _ => none
def bornIdx : List MapEntry → Nat → Nat → Option Nat
  | [], _, _ => none
  | e :: es, b, i => match e.born.beq b with
    | true => some i
    | false => bornIdx es b (i + 1)
def entryStore' (x s v : Value) (σ : AHeap) : Option AHeap := match x, natOf s with
  | .map (some r), some born => match σ.get r with
    | some (.map es clock false) => match bornIdx es born 0 with
      | some i => some (σ.set r (.map (es.modify i fun e => { e with val := v }) clock false))
      | none => none
    | _ => none
  | _, _ => none
def mapDel (P : Program) (t : TypeId) (x k : Value) (σ : AHeap) : Option AHeap := match P.underlying t with
  | some (.map kt _) => match x with
    | .map none => match keyOk P kt k with
      | true => some σ
      | false => none
    | .map (some r) => match keyOk P kt k, σ.get r with
      | true, some (.map es clock false) => match findKey' P kt (isStr P kt) k es 0 with
        | some (some (i, _)) => some (σ.set r (.map (es.eraseIdx i) clock false))
        | some none => some (σ.set r (.map es clock false))
        | none => none
      | _, _ => none
    | _ => none
  | _ => none

def range' (P : Program) (t : TypeId) (x : Value) (σ : AHeap) : Option (Value × AHeap) := match P.underlying t, x with
  | some .string, .string s => let (b, σ) := σ.new (.strIter s 0); some (ptr b 0, σ)
  | some (.map ..), .map none => let (b, σ) := σ.new (.mapIter none 0 [] 0); some (ptr b 0, σ)
  | some (.map ..), .map (some m) => match σ.get m with
    | some (.map _ clock _) => let (b, σ) := σ.new (.mapIter (some m) clock [] clock); some (ptr b 0, σ)
    | _ => none
  | _, _ => none
def nextMap (r m since : Nat) (seen : List Nat) (last : Nat) (es : List MapEntry) (clock : Nat) (σ : AHeap) : Option (Value × AHeap) :=
  match !seen.isEmpty && !es.isEmpty && es.all (fun e => decide (e.born ≥ last)) with
  | true => none
  | false =>
    match (es.filter fun e => !seen.contains e.born).filter (fun e => decide (e.born < since)), (es.filter fun e => !seen.contains e.born).filter (fun e => decide (e.born ≥ since)) with
    | [], [] => some (.tuple #[.bool false], σ)
    | [e], [] => some (.tuple #[.bool true, e.key, e.val], σ.set r (.mapIter (some m) since (seen ++ [e.born]) clock))
    | _, _ => none
def next' (it : Value) (isString : Bool) (σ : AHeap) : Option (Value × AHeap) := match it with
  | .pointer (some ⟨r, 0, none⟩) => match σ.get r, isString with
    | some (.strIter s pos), true => match pos.blt s.size with
      | true => some (.tuple #[.bool true, goInt pos, .int .i32 (Utf8.decode s pos).1], σ.set r (.strIter s (pos + (Utf8.decode s pos).2)))
      | false => some (.tuple #[.bool false], σ)
    | some (.mapIter none _ _ _), false => some (.tuple #[.bool false], σ)
    | some (.mapIter (some m) since seen last), false => match σ.get m with
      | some (.map es clock _) => nextMap r m since seen last es clock σ
      | _ => none
    | _, _ => none
  | _ => none
def entry' (it : Value) (σ : AHeap) : Option Value := match it with
  | .pointer (some ⟨r, 0, none⟩) => match σ.get r with
    | some (.mapIter (some m) _ seen stepped) => match seen.getLast?, σ.get m with
      | some stamp, some (.map es clock _) => match clock.beq stepped with
        | true => match es.find? (fun e => e.born == stamp) with
          | some e => some (.tuple #[e.key, e.val])
          | none => none
        | false => none
      | _, _ => none
    | _ => none
  | _ => none

def typeAssert' (P : Program) (x : Value) (asserted : TypeId) (ok : Bool) : Option Value :=
  let holds (v : Value) : Value := if ok then .tuple #[v, .bool true] else v
  let fails : Option Value := if ok then (zeroOf P asserted).map fun z => .tuple #[z, .bool false] else none
  match P.underlying asserted, x with
  | some (.interface _), .nilIface => fails
  | some (.interface want), .iface t _ => match P.info? t with
    | some i => match Instr.missingMethod want i.methods with
      | none => some (holds x)
      | some _ => fails
    | none => none
  | some _, .nilIface => fails
  | some _, .iface t v => if t = asserted then some (holds v) else fails
  | _, _ => none

/-- An element's size and zero cells. -/
def elemOk (P : Program) (e : TypeId) : Option (Nat × List Value) := match P.info? e with
  | some i => match i.zero with
    | some z => match plain z && z.cells.size.beq i.size && i.bytes.ble 1048576 with
      | true => some (i.size, z.cells.toList)
      | false => none
    | none => none
  | none => none

/-- Cells appended to a slice. -/
def appendCells (elem size : Nat) (base : Option Addr) (sLen sCap n : Nat) (cs : List Value) (σ : AHeap) : Option (Value × AHeap) :=
  match (sLen + n).ble sCap with
  | true => match base with
    | none => some (.slice none (sLen + n) sCap, σ)
    | some a => match stCells σ a.block (a.off + sLen * size) cs with
      | some σ => some (.slice (some a) (sLen + n) sCap, σ)
      | none => none
  | false => match firstCells' size sLen σ (.slice base sLen sCap) with
    | some old => match (sLen + n).ble 1048576 && old.length.beq (sLen * size) && cs.length.beq (n * size) && cs.all single with
     | true => match base with
      | none => let (b, σ) := newCells σ elem (old ++ cs) true; some (.slice (some ⟨b, 0, none⟩) (sLen + n) (sLen + n), σ)
      | some a => match a.spot with
        | some _ => let (b, σ) := newCells σ elem (old ++ cs) true; some (.slice (some ⟨b, 0, none⟩) (sLen + n) (sLen + n), σ)
        | none => match σ.get a.block with
          -- a row that grew itself may be written in place: it is dropped
          | some (.cells _ _ e true false) => match e.beq elem with
            | true => let (b, σ) := newCells (σ.drop a.block) elem (old ++ cs) true; some (.slice (some ⟨b, 0, none⟩) (sLen + n) (sLen + n), σ)
            | false => none
          | some (.cells _ _ _ false _) => let (b, σ) := newCells σ elem (old ++ cs) true; some (.slice (some ⟨b, 0, none⟩) (sLen + n) (sLen + n), σ)
          | _ => none
     | false => none
    | none => none
def append' (P : Program) (sType : TypeId) (xType : Option TypeId) (s x : Value) (σ : AHeap) : Option (Value × AHeap) := match P.underlying sType, s with
  | some (.slice elem), .slice base sLen sCap => match elemOk P elem, xType with
    | some (size, _), some xt => match P.underlying xt with
      | some (.int _) => none
      | some _ => match lenOf' x with
        | some n => match firstCells' size n σ x with
          | some cs => appendCells elem size base sLen sCap n cs σ
          | none => none
        | none => none
      | none => none
    | _, _ => none
  | _, _ => none

def mm (P : Program) (lss : Bool) (x y : Value) : Option Value := match atom x && atom y with
  | true => atomic (pureP P (if lss then Builtin.min2 x y else Builtin.max2 x y))
  | false => none
def mmAll (P : Program) (lss : Bool) : Value → List Value → Option Value
  | x, [] => some x
  | x, y :: r => match mm P lss x y with
    | some z => mmAll P lss z r
    | none => none
def un (P : Program) (op : UnOp) (x : Value) : Option Value := match atom x with
  | true => atomic (pureP P (Op.unary op x))
  | false => none

def builtin' (P : Program) (b : Builtin) (ts : Array TypeId) (args : List Value) (σ : AHeap) : Option (Value × AHeap) := match b, args with
  | .append, [s, x] => (ts[0]?).bind fun t => append' P t ts[1]? s x σ
  | .len, [x] => match (ts[0]?).bind P.underlying, x with
    | some .string, .string s => some (goInt s.size, σ)
    | some (.array n _), _ => some (goInt n, σ)
    | some (.pointer arr), _ => match P.underlying arr with
      | some (.array n _) => some (goInt n, σ)
      | _ => none
    | some (.slice _), .slice _ n _ => some (goInt n, σ)
    | some (.map ..), .map none => some (goInt 0, σ)
    | some (.map ..), .map (some r) => match σ.get r with
      | some (.map es _ _) => some (goInt es.length, σ)
      | _ => none
    | _, _ => none
  | .cap, [x] => match (ts[0]?).bind P.underlying, x with
    | some (.array n _), _ => some (goInt n, σ)
    | some (.slice _), .slice none _ n => some (goInt n, σ)
    | some (.slice _), .slice (some a) _ n => match a.spot, σ.get a.block with
      | some _, _ => some (goInt n, σ)
      | none, some (.cells _ _ _ false _) => some (goInt n, σ)
      | _, _ => none
    | _, _ => none
  | .copy, [d, s] => match (ts[0]?).bind P.underlying, d with
    | some (.slice elem), .slice base dLen dCap => match sizeOf' P elem, lenOf' s, dLen.ble dCap with
      | some size, some sl, true => match firstCells' size (Nat.min sl dLen) σ s with
        | some cs => match base with
          | none => some (goInt (Nat.min sl dLen), σ)
          | some a => match stCells σ a.block a.off cs with
            | some σ => some (goInt (Nat.min sl dLen), σ)
            | none => none
        | none => none
      | _, _, _ => none
    | _, _ => none
  | .delete, [m, k] => (ts[0]?).bind fun t => (mapDel P t m k σ).map fun σ => (.tuple #[], σ)
  | .clear, [x] => match (ts[0]?).bind P.underlying, x with
    | some (.slice elem), .slice (some a) n c => match elemOk P elem, n.ble c with
      | some (_, z), true => match stCells σ a.block a.off (zerosN z n) with
        | some σ => some (.tuple #[], σ)
        | none => none
      | _, _ => none
    | _, _ => none
  | .min, x :: rest => (mmAll P true x rest).map (·, σ)
  | .max, x :: rest => (mmAll P false x rest).map (·, σ)
  | _, _ => none

/-- A method's receiver, by the path of its row: a value, or a variable's place. -/
inductive APl where
  | val (v : Value)
  | var (b off : Nat)
def APl.get (P : Program) (t : TypeId) (σ : AHeap) : APl → Option Value
  | .val v => some v
  | .var b off => ldVar P t σ b off
/-- A field's place, of a field that has cells. -/
def fieldOff (P : Program) (s : FieldStep) : Option Field := match P.underlying s.struct with
  | some (.struct fields) => match fields[s.index]? with
    | some f => match sizeOf' P f.type with
      | some (_ + 1) => some f
      | _ => none
    | none => none
  | _ => none
def follow' (P : Program) : List FieldStep → TypeId → APl → AHeap → Option (TypeId × APl)
  | [], t, x, _ => some (t, x)
  | s :: rest, t, x, σ => match fieldOff P s with
    | none => none
    | some f => match s.deref with
      | true => match x.get P t σ with
        | some (.pointer (some ⟨b, off, none⟩)) => follow' P rest f.type (.var b (off + f.offset)) σ
        | _ => none
      | false => match x with
        | .var b off => follow' P rest f.type (.var b (off + f.offset)) σ
        | .val (.agg cs) => match part' P f.type cs f.offset with
          | some v => follow' P rest f.type (.val v) σ
          | none => none
        | .val _ => none
def receiver' (P : Program) (xt : TypeId) (x : APl) (pointer : Bool) (σ : AHeap) : Option Value := match P.underlying xt, pointer with
  | some (.pointer _), true => x.get P xt σ
  | some (.pointer elem), false => match x.get P xt σ with
    | some (.pointer (some ⟨b, off, none⟩)) => ldVar P elem σ b off
    | _ => none
  | some _, true => match x with
    | .var b off => some (ptr b off)
    | .val _ => none
  | some _, false => x.get P xt σ
  | none, _ => none
def method' (P : Program) : Nat → TypeId → Value → String → AHeap → Option (FuncId × Value)
  | 0, _, _, _, _ => none
  | n + 1, t, v, name, σ => match P.info? t with
    | none => none
    | some i => match i.methods.find? (fun m => m.name == name) with
      | none => none
      | some m => match follow' P m.path.toList t (.val v) σ with
        | none => none
        | some (xt, x) => match m.func with
          | none => match x.get P xt σ with
            | some (.iface t' v') => method' P n t' v' name σ
            | _ => none
          | some (f, pointer) => match receiver' P xt x pointer σ with
            | some r => some (f, r)
            | none => none
/-- A function that is entered when it is called. -/
def enters (P : Program) (f : FuncId) : Bool := match P.funcs[f]? with
  | some fn => fn.body.isSome && !(fn.name == "runtime.NumGoroutine")
  | none => false

abbrev CallF := FuncId → List Value → AHeap → Option (Value × AHeap)

def aop (P : Program) (call : CallF) (o : Oper) (fr : AFr) (σ : AHeap) : Option (Value × AHeap) :=
  match o.op with
  | .move x => some (fr.eval x, σ)
  | .assign x => some (fr.eval x, σ)
  | .pick c a b => match fr.eval c with
    | .bool true => some (fr.eval a, σ)
    | .bool false => some (fr.eval b, σ)
    | _ => none
  | .alloc e => match zeroOf P e with
    | some z => let (b, σ) := newCells σ e z.cells.toList; some (ptr b 0, σ)
    | none => none
  | .box e x => let (b, σ) := newCells σ e (fr.eval x).cells.toList; some (ptr b 0, σ)
  | .build t parts => (build' P t (parts.toList.map fun (i, x) => (i, fr.eval x))).map (·, σ)
  | .buildSlice t len parts => match P.underlying t with
    | some (.slice elem) => match elemOk P elem with
      | some (size, z) => match (len * size).ble 1048576 with
        | true => match fill' (fun i => some (i * size, size)) (zerosN z len) (parts.toList.map fun (i, x) => (i, fr.eval x)) with
          | some cs => let (b, σ) := newCells σ elem cs; some (.slice (some ⟨b, 0, none⟩) len len, σ)
          | none => none
        | false => none
      | none => none
    | _ => none
  | .load t a => match fr.eval a with
    | .pointer (some ⟨b, off, none⟩) => (ldVar P t σ b off).map (·, σ)
    | _ => none
  | .store t a x => match fr.eval a with
    | .pointer (some ⟨b, off, none⟩) =>
      let v := fr.eval x
      match sizeOf' P t with
      | some n => if v.cells.size = n then (stCells σ b off v.cells.toList).map fun σ => (undef, σ) else none
      | none => none
    | _ => none
  | .nilCheck x => match fr.eval x with
    | .pointer (some a) => some (.pointer (some a), σ)
    | .iface t v => some (.iface t v, σ)
    | .func (.func f) a b => some (.func (.func f) a b, σ)
    | .func (.methodOf t n) a b => some (.func (.methodOf t n) a b, σ)
    | .func (.via t p f q) a b => some (.func (.via t p f q) a b, σ)
    | _ => none
  | .binOp op t x y _ => (bin P op t x y (fr.eval x) (fr.eval y)).map (·, σ)
  | .unOp op _ x => (un P op (fr.eval x)).map (·, σ)
  | .convert src dst x => conv P src dst (fr.eval x) σ
  | .sliceToArrayPointer arr x => match P.underlying arr, fr.eval x with
    | some (.array n _), .slice a len _ => match a with
      | some a => match a.spot with
        | none => match Nat.blt 0 n && n.ble len with
          | true => some (.pointer (some a), σ)
          | false => none
        | some _ => none
      | none => none
    | _, _ => none
  | .makeInterface t x => match P.underlying t with
    | some (.interface _) => none
    | some _ => some (.iface t (fr.eval x), σ)
    | none => none
  | .makeFunc fn first captured => some (.func fn (first.map fr.eval) (captured.map fr.eval), σ)
  | .makeMap t r => match r with
    | none => let (b, σ) := σ.new (.map [] 0 false); some (.map (some b), σ)
    | some h => match P.underlying t, fr.eval h with
      | some (.map ..), .int .. => let (b, σ) := σ.new (.map [] 0 false); some (.map (some b), σ)
      | _, _ => none
  | .makeSlice t l c => match P.underlying t, natOf (fr.eval l), natOf (fr.eval c) with
    | some (.slice elem), some l, some c => match elemOk P elem, l.ble c && c.ble 1048576 with
      | some (_, z), true => let (b, σ) := newCells σ elem (zerosN z c); some (.slice (some ⟨b, 0, none⟩) l c, σ)
      | _, _ => none
    | _, _, _ => none
  | .slice t x lo hi mx => (sliceOp P t (fr.eval x) (lo.map fr.eval) (hi.map fr.eval) (mx.map fr.eval) σ).map (·, σ)
  | .fieldAddr s x f => (fieldAddr P s (fr.eval x) f).map (·, σ)
  | .field t x f => (fieldVal P t (fr.eval x) f).map (·, σ)
  | .indexAddr t x ix => (indexAddr P t (fr.eval x) (fr.eval ix)).map (·, σ)
  | .index t x ix => (indexVal P t (fr.eval x) (fr.eval ix)).map (·, σ)
  | .lookup t x ix ok => (lookup' P t (fr.eval x) (fr.eval ix) ok σ).map (·, σ)
  | .mapUpdate t m k x => (mapPut P t (fr.eval m) (fr.eval k) (fr.eval x) σ).map (undef, ·)
  | .insert t m k x => (mapPut P t (fr.eval m) (fr.eval k) (fr.eval x) σ).map (undef, ·)
  | .mapEntry t m k => mapEntry' P t (fr.eval m) (fr.eval k) σ
  | .entryStore _ m s x => (entryStore' (fr.eval m) (fr.eval s) (fr.eval x) σ).map (undef, ·)
  | .range t x => range' P t (fr.eval x) σ
  | .next it isString => next' (fr.eval it) isString σ
  | .entry it => (entry' (fr.eval it) σ).map (·, σ)
  | .typeAssert x _ asserted ok => (typeAssert' P (fr.eval x) asserted ok).map (·, σ)
  | .extract t ix => match fr.eval t with
    | .tuple vs => (vs[ix]?).map (·, σ)
    | _ => none
  | .call c => match c.callee with
    | .builtin b => builtin' P b c.argTypes (c.args.toList.map fr.eval) σ
    | .value f => match fr.eval f with
      | .func (.func f) first captured => match enters P f with
        | true => call f (first.toList ++ c.args.toList.map fr.eval ++ captured.toList) σ
        | false => none
      | _ => none
    | .invoke recv name => match fr.eval recv with
      | .iface t v => match method' P 4 t v name σ with
        | some (f, r) => match enters P f with
          | true => call f (r :: c.args.toList.map fr.eval) σ
          | false => none
        | none => none
      | _ => none
  | _ => none

/-! Regions. -/

/-- Of a region whose order is drawn: what may change places. -/
inductive Cls where
  | pure | reads | acts
  deriving DecidableEq, Repr
def clsOf (P : Program) : Op → Cls
  | .move _ | .assign _ | .pick .. | .build .. | .nilCheck _ | .binOp .. | .unOp .. | .makeInterface .. | .makeFunc .. | .fieldAddr .. | .field .. | .indexAddr .. | .index .. | .typeAssert .. | .extract .. | .sliceToArrayPointer .. => .pure
  | .load .. | .lookup .. | .entry _ | .slice .. => .reads
  | .convert _ dst _ => match P.underlying dst with
    | some (.slice _) => .acts
    | _ => .reads
  | .call { callee := .builtin b, .. } => match b with
    | .len | .cap | .min | .max => .reads
    | _ => .acts
  | _ => .acts
def acts (P : Program) (o : Oper) : Bool := match clsOf P o.op with
  | .acts => true
  | _ => false
def isReads (P : Program) (o : Oper) : Bool := match clsOf P o.op with
  | .reads => true
  | _ => false

/-- What an operation waits for, as bits; acc: the same of those ahead of it. -/
def maskOf (acc : List Nat) : List Edge → Nat → Nat
  | [], m => m
  | e :: es, m => match Region.binds .any e with
    | true => maskOf acc es (m ||| 2 ^ e.on ||| acc.getD e.on 0)
    | false => maskOf acc es m
def masks : List Oper → List Nat → List Nat
  | [], acc => acc
  | o :: rest, acc => masks rest (acc ++ [maskOf acc o.after.toList 0])
/-- Does j wait for i (on whichever way)? -/
def waitsFor (ops : List Oper) (j i : Nat) : Bool := ((masks ops []).getD j 0).testBit i

def opTmps (o : Oper) : List Tmp := o.op.operands.toList.filterMap fun x => match x with | .tmp t => some t | _ => none
/-- A drawn region whose order of the text serves: the edges lead back; no slot is written twice; what an operation reads of the region it waits for; what acts stands in a chain. -/
def drawOk (P : Program) (fls : List Nat) (ops : List Oper) : Bool :=
  (List.range ops.length).all fun j => match ops[j]? with
    | none => true
    | some b =>
      (b.after.toList.all fun e => !Region.binds .any e || e.on.blt j) &&
      (match b.guard with
        | none => true
        | some (g, _) => waitsFor ops j g) &&
      ((List.range ops.length).all fun i => i.beq j || match ops[i]? with
        | none => true
        | some a =>
          (match a.dst with
            | none => true
            | some d => !(b.dst == some d) && (!((opTmps b).contains d) || waitsFor ops j i)) &&
          (!(acts P a && acts P b && !fls.contains i && !fls.contains j && i.blt j) || waitsFor ops j i))
/-- The pairs (what acts, what reads) that a draw may turn round. -/
def unruly (P : Program) (ops : List Oper) : List (Nat × Nat) :=
  (List.range ops.length).flatMap fun u => match ops[u]? with
    | none => []
    | some a => match acts P a with
      | false => []
      | true => (List.range ops.length).filterMap fun i => match ops[i]? with
        | none => none
        | some b => match isReads P b && !waitsFor ops u i && !waitsFor ops i u with
          | true => some (u, i)
          | false => none

def yields (ops : List Oper) (fr : AFr) (j : Nat) : Option Bool := match ops[j]? with
  | some o => match o.dst with
    | some d => match fr.at_ d with
      | .bool b => some b
      | _ => none
    | none => none
  | none => none
def wanted' (ops : List Oper) (fr : AFr) (o : Oper) : Bool := match o.guard with
  | none => true
  | some (j, want) => match yields ops fr j with
    | some b => b == want
    | none => false

def runOps (P : Program) (call : CallF) (ops : List Oper) : List Oper → AFr → AHeap → Option (AFr × AHeap)
  | [], fr, σ => some (fr, σ)
  | o :: rest, fr, σ => match wanted' ops fr o with
    | false => runOps P call ops rest (fr.put o.dst undef) σ
    | true => match aop P call o fr σ with
      | none => none
      | some (v, σ) => runOps P call ops rest (fr.put o.dst v) σ

/-- The same, with the frames and heaps ahead of each operation, and what it told. -/
def runTr (P : Program) (call : CallF) (ops : List Oper) : List Oper → AFr → AHeap → Option (List (AFr × AHeap × Value) × AFr × AHeap)
  | [], fr, σ => some ([], fr, σ)
  | o :: rest, fr, σ => match wanted' ops fr o with
    | false => match runTr P call ops rest (fr.put o.dst undef) σ with
      | some (l, r) => some ((fr, σ, undef) :: l, r)
      | none => none
    | true => match aop P call o fr σ with
      | none => none
      | some (v, σ') => match runTr P call ops rest (fr.put o.dst v) σ' with
        | some (l, r) => some ((fr, σ, v) :: l, r)
        | none => none

def sameV : Nat → Value → Value → Bool
  | 0, _, _ => false
  | n + 1, a, b => match a, b with
    | .bool x, .bool y => x == y
    | .int j x, .int k y => j == k && x == y
    | .float j x, .float k y => j == k && x.beq y
    | .string x, .string y => x.data.toList == y.data.toList
    | .pointer x, .pointer y => x == y
    | .slice x n1 c1, .slice y n2 c2 => x == y && n1.beq n2 && c1.beq c2
    | .map x, .map y => x == y
    | .nilFunc, .nilFunc => true
    | .nilIface, .nilIface => true
    | .iface t x, .iface u y => t.beq u && sameV n x y
    | .agg x, .agg y => x.size.beq y.size && (x.toList.zip y.toList).all fun (p, q) => sameV n p q
    | .tuple x, .tuple y => x.size.beq y.size && (x.toList.zip y.toList).all fun (p, q) => sameV n p q
    | .func (.func f) a b, .func (.func g) c d => f.beq g && ((a.size.beq c.size && (a.toList.zip c.toList).all fun (p, q) => sameV n p q) && (b.size.beq d.size && (b.toList.zip d.toList).all fun (p, q) => sameV n p q))
    | _, _ => false
/-- Does it tell the same over that heap? -/
def retells (P : Program) (call : CallF) (o : Oper) (fr : AFr) (v : Value) (σ : AHeap) : Bool := match aop P call o fr σ with
  | some (u, _) => sameV 6 u v
  | none => false
def retold (P : Program) (call : CallF) (ops : List Oper) (tr : List (AFr × AHeap × Value)) (fin : AHeap) : List (Nat × Nat) → Bool
  | [] => true
  | (u, i) :: rest => (match ops[i]?, tr[i]?, tr[u]? with
    | some o, some (fr, _, v), some (_, σu, _) => match wanted' ops fr o with
      | false => true
      | true => retells P call o fr v σu && retells P call o fr v (match tr[u + 1]? with | some (_, σ, _) => σ | none => fin)
    | _, _, _ => false) && retold P call ops tr fin rest

/-- A row that stands beside the heap until it is waited for. -/
structure Fl where
  p : Nat
  e : TypeId
  vs : List Value
def Fl.obj (f : Fl) : AObj := .cells f.vs.length (Tr.ofList f.vs 0 .leaf) f.e false false
def landAll (base : Nat) : List Fl → AHeap → AHeap
  | [], σ => σ
  | f :: l, σ => (landAll base l σ).set (base + f.p) f.obj
/-- What an operation makes that makes a row and nothing else. -/
def flOf (P : Program) (o : Oper) (fr : AFr) : Option (TypeId × List Value × Option Nat) := match o.op with
  | .alloc e => match zeroOf P e with
    | some z => some (e, z.cells.toList, none)
    | none => none
  | .buildSlice t len parts => match P.underlying t with
    | some (.slice elem) => match elemOk P elem with
      | some (size, z) => match (len * size).ble 1048576 with
        | true => match fill' (fun i => some (i * size, size)) (zerosN z len) (parts.toList.map fun (i, x) => (i, fr.eval x)) with
          | some cs => some (elem, cs, some len)
          | none => none
        | false => none
      | none => none
    | _ => none
  | _ => none
def flV (b : Nat) : Option Nat → Value
  | none => ptr b 0
  | some len => .slice (some ⟨b, 0, none⟩) len len
def isFlop : Op → Bool
  | .alloc _ => true
  | .buildSlice .. => true
  | _ => false
/-- The operations of a region that make a row and stand in no chain. -/
def floats (P : Program) (ops : List Oper) : List Nat := (List.range ops.length).filter fun u => match ops[u]? with
  | some a => isFlop a.op && (List.range ops.length).any fun j => match ops[j]? with
    | some b => !(u.beq j) && acts P b && !waitsFor ops u j && !waitsFor ops j u
    | none => false
  | none => false
def stepFl (P : Program) (call : CallF) (ops : List Oper) (fls : List Nat) (base : Nat) (o : Oper) (i : Nat) (ps : List Fl) (fr : AFr) (σ : AHeap) : Option (Value × List Fl × AHeap) := match wanted' ops fr o with
  | false => some (undef, ps, σ)
  | true => match fls.contains i with
    | true => match flOf P o fr with
      | some (e, vs, k) => some (flV (base + i) k, ⟨i, e, vs⟩ :: ps, σ)
      | none => none
    | false => match acts P o with
      | true => match aop P call o fr (landAll base (ps.filter fun f => waitsFor ops i f.p) σ) with
        | some (v, σ2) => some (v, ps.filter fun f => !waitsFor ops i f.p, σ2)
        | none => none
      | false => match aop P call o fr σ with
        | some (v, _) => some (v, ps, σ)
        | none => none
def runFl (P : Program) (call : CallF) (ops : List Oper) (fls : List Nat) (base : Nat) : List Oper → Nat → List Fl → AFr → AHeap → Option (List (AFr × AHeap × Value) × List (List Fl) × List Fl × AFr × AHeap)
  | [], _, ps, fr, σ => some ([], [], ps, fr, σ)
  | o :: rest, i, ps, fr, σ => match stepFl P call ops fls base o i ps fr σ with
    | none => none
    | some (v, ps2, σ2) => match runFl P call ops fls base rest (i + 1) ps2 (fr.put o.dst v) σ2 with
      | some (tr, pl, r) => some ((fr, σ, v) :: tr, ps :: pl, r)
      | none => none
def regionF (P : Program) (call : CallF) (ops : List Oper) (fls : List Nat) (fr : AFr) (σ : AHeap) : Option (AFr × AHeap) := match drawOk P fls ops with
  | false => none
  | true => match runFl P call ops fls σ.next ops 0 [] fr ⟨σ.next + ops.length, σ.m⟩ with
    | some (tr, _, pe, fr', σ') => match retold P call ops tr σ' (unruly P ops) with
      | true => some (fr', landAll σ.next pe σ')
      | false => none
    | none => none

def region' (P : Program) (call : CallF) (ops : List Oper) (draw : Bool) (fr : AFr) (σ : AHeap) : Option (AFr × AHeap) := match draw with
  | false => runOps P call ops ops fr σ
  | true => match drawOk P [] ops with
    | false => regionF P call ops (floats P ops) fr σ
    | true => match unruly P ops with
      | [] => runOps P call ops ops fr σ
      | ps => match runTr P call ops ops fr σ with
        | some (tr, fr', σ') => match retold P call ops tr σ' ps with
          | true => some (fr', σ')
          | false => none
        | none => none

inductive AExit where
  | normal
  | exit (id : Nat)
  | ret

def loopN (body : AFr → AHeap → Option (AExit × AFr × AHeap)) : Nat → AFr → AHeap → Option (AExit × AFr × AHeap)
  | 0, _, _ => none
  | n + 1, fr, σ => match body fr σ with
    | some (.normal, fr, σ) => loopN body n fr σ
    | r => r

def exec (P : Program) (call : CallF) (n : Nat) : Code → AFr → AHeap → Option (AExit × AFr × AHeap)
  | .skip, fr, σ => some (.normal, fr, σ)
  | .label _, fr, σ => some (.normal, fr, σ)
  | .region _ ops draw, fr, σ => match region' P call ops.toList draw fr σ with
    | some (fr, σ) => some (.normal, fr, σ)
    | none => none
  | .seq a b, fr, σ => match exec P call n a fr σ with
    | some (.normal, fr, σ) => exec P call n b fr σ
    | r => r
  | .cond c a b, fr, σ => match fr.eval c with
    | .bool true => exec P call n a fr σ
    | .bool false => exec P call n b fr σ
    | _ => none
  | .block id body, fr, σ => match exec P call n body fr σ with
    | some (.exit id', fr, σ) => match id'.beq id with
      | true => some (.normal, fr, σ)
      | false => some (.exit id', fr, σ)
    | r => r
  | .loop body, fr, σ => loopN (exec P call n body) n fr σ
  | .exit id, fr, σ => some (.exit id, fr, σ)
  | .ret, fr, σ => some (.ret, fr, σ)
  | .scope body, fr, σ => exec P call n body fr σ
  | _, _, _ => none

def resOne (P : Program) (fr : AFr) (σ : AHeap) : ResultVar → Option Value
  | .tmp t => some (fr.at_ t)
  | .cell a t => match fr.at_ a with
    | .pointer (some ⟨b, off, none⟩) => ldVar P t σ b off
    | _ => none
def resAll (P : Program) (fr : AFr) (σ : AHeap) : List ResultVar → Option (List Value)
  | [] => some []
  | r :: rs => match resOne P fr σ r, resAll P fr σ rs with
    | some v, some vs => some (v :: vs)
    | _, _ => none
def results' (P : Program) (fn : Func) (fr : AFr) (σ : AHeap) : Option Value := match resAll P fr σ fn.results.toList with
  | some [v] => some v
  | some vs => some (.tuple vs.toArray)
  | none => none

/-- What the operands of an operation may be: plain constants, the globals that are named. -/
def opdOk (gs : List Nat) : Operand → Bool
  | .const v => plain v
  | .global g => gs.contains g
  | _ => true
def operOk (gs : List Nat) (o : Oper) : Bool := o.op.operands.toList.all (opdOk gs)
def codeOk (gs : List Nat) : Code → Bool
  | .region _ ops _ => ops.toList.all (operOk gs)
  | .seq a b => codeOk gs a && codeOk gs b
  | .cond c a b => opdOk gs c && codeOk gs a && codeOk gs b
  | .block _ b => codeOk gs b
  | .loop b => codeOk gs b
  | .scope b => codeOk gs b
  | _ => true

abbrev Orc := FuncId → Option (List Value → AHeap → Option (Value × AHeap))

def acall (P : Program) (gs : List Nat) (orc : Orc) : Nat → CallF
  | 0 => fun _ _ _ => none
  | n + 1 => fun f args σ => match orc f with
    | some g => g args σ
    | none => match P.funcs[f]? with
      | none => none
      | some fn => match fn.body with
        | none => none
        | some c => match codeOk gs c with
          | false => none
          | true => match exec P (acall P gs orc n) n c ⟨max fn.ntmps args.length, Tr.ofList args 0 .leaf⟩ σ with
            | some (.normal, fr, σ) => match results' P fn fr σ with
              | some v => some (v, σ)
              | none => none
            | some (.ret, fr, σ) => match results' P fn fr σ with
              | some v => some (v, σ)
              | none => none
            | _ => none
end Go.AE
