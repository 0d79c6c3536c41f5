/- Part 2 of the proof. -/
import GoSem.Dispatch
import GoSem.Machine.Return
import Derived.Test.YtnmkgbomiillgaaGreatDoorP01
import Derived.Orders
import Derived.Laws.AppendOwn
/- The concrete evaluator: definitions alone. A run over data without inputs, in any world: own blocks are numbered from 0; where they lie is told by a map. -/
namespace Go.XR

/-- A value whose addresses are of own blocks. -/
inductive CV where
  | at (v : Value)
  | ptr (b o : Nat)
  | sl (b o n e : Nat)
  /-- What is left of 'sl b o l e' behind its l elements. -/
  | esl (b o l e : Nat)
  | fn (f : FuncId) (first caps : List CV)
  | ifc (t : TypeId) (v : CV)
  | agg (l : List CV)
  | tup (l : List CV)
  | mp (b : Nat)
  /-- A cell of an array that was there before, and a slice of all of it. -/
  | gp (k i : Nat)
  | gs (k n : Nat)
instance : Inhabited CV := ⟨.at undef⟩

inductive Tr (α : Type) where
  | nil
  | node (x : Option α) (l r : Tr α)
def Tr.get {α : Type} : Tr α → Nat → Option α
  | .nil, _ => none
  | .node x l r, n => cond (Nat.beq n 0) x (cond (Nat.beq (n % 2) 1) (l.get (n / 2)) (r.get (n / 2 - 1)))
def Tr.top {α : Type} : Tr α → Option α
  | .nil => none
  | .node x _ _ => x
def Tr.left {α : Type} : Tr α → Tr α
  | .nil => .nil
  | .node _ l _ => l
def Tr.right {α : Type} : Tr α → Tr α
  | .nil => .nil
  | .node _ _ r => r
/-- Nodes with an evaluated branch. -/
def Tr.inL {α : Type} (x : Option α) (u r : Tr α) : Tr α :=
  match u with
  | .nil => .node x .nil r
  | .node a b c => .node x (.node a b c) r
def Tr.inR {α : Type} (x : Option α) (l u : Tr α) : Tr α :=
  match u with
  | .nil => .node x l .nil
  | .node a b c => .node x l (.node a b c)
def Tr.setF {α : Type} : Nat → Tr α → Nat → α → Tr α
  | 0, t, _, _ => t
  | f + 1, t, n, v => match t with
    | .nil => cond (Nat.beq n 0) (.node (some v) .nil .nil) (cond (Nat.beq (n % 2) 1) (Tr.inL none (Tr.setF f .nil (n / 2) v) .nil) (Tr.inR none .nil (Tr.setF f .nil (n / 2 - 1) v)))
    | .node x l r => cond (Nat.beq n 0) (.node (some v) l r) (cond (Nat.beq (n % 2) 1) (Tr.inL x (Tr.setF f l (n / 2) v) r) (Tr.inR x l (Tr.setF f r (n / 2 - 1) v)))
def Tr.set {α : Type} (t : Tr α) (n : Nat) (v : α) : Tr α := Tr.setF (n + 1) t n v

/-- A block: its cells as far as they are known; 'ex': there are no more; 'ok': it may be read. 'fz': the cells that are frozen, if any: none may be written. -/
structure Blk where
  ty : TypeId
  cs : List CV
  ex : Bool
  fz : Bool
/-- What is known of package-level variables: values; arrays; which array a variable is. -/
structure Gl where
  v : List (Nat × CV)
  a : List (Nat × List Value)
  n : List (Nat × Nat)
structure VS where
  next : Nat
  heap : Tr (Option Blk)
  low : Nat
  /-- Grows whenever something changes. -/
  ver : Nat
  gl : Gl

def VS.blk (s : VS) (b : Nat) : Option Blk := (s.heap.get b).join
def VS.put (s : VS) (b : Nat) (k : Option Blk) : VS := { s with heap := s.heap.set b k, low := Nat.min s.low b, ver := s.ver + 1 }
def VS.new (s : VS) (k : Option Blk) : VS := { s with next := s.next + 1, heap := s.heap.set s.next k, ver := s.ver + 1 }

mutual
def toVal : CV → Option Value
  | .at v => some v
  | .ifc t v => match toVal v with | some u => some (.iface t u) | none => none
  | .agg l => match toVals l with | some us => some (.agg us.toArray) | none => none
  | .tup l => match toVals l with | some us => some (.tuple us.toArray) | none => none
  | _ => none
def toVals : List CV → Option (List Value)
  | [] => some []
  | v :: r => match toVal v with
    | some u => (match toVals r with | some us => some (u :: us) | none => none)
    | none => none
end
def cellsC : CV → List CV
  | .agg l => l
  | .at (.agg cs) => cs.toList.map .at
  | v => [v]
def isCell : CV → Bool
  | .agg _ | .tup _ | .at (.agg _) | .at (.tuple _) => false
  | _ => true
def pureRun {α : Type} (P : Program) : Sem α → Option α
  | .pure a => some a
  | .program k => pureRun P (k P)
  | .mark _ k => pureRun P k
  | _ => none
def ev (t : Tr CV) : Operand → CV
  | .tmp n => (t.get n).getD (.at undef)
  | .const v => .at v
  | .global g => .at (.pointer (some ⟨g, 0, none⟩))
  | .func f => .at (.func (.func f) #[] #[])
def intOf : CV → Option Int
  | .at (.int _ n) => some n
  | _ => none
def boolOf : CV → Option Bool
  | .at (.bool b) => some b
  | _ => none
/-- Whether a type is a struct or an array. -/
def aggB (P : Program) (t : TypeId) : Option Bool :=
  match P.underlying t with
  | some (.struct _) | some (.array _ _) => some true
  | some _ => some false
  | none => none
def szOf (P : Program) (t : TypeId) : Option Nat := (P.info? t).map (·.size)
def zeroOf (P : Program) (t : TypeId) : Option Value := (P.info? t).bind (·.zero)
/-- The part of a row of cells from 'o' on that a variable of type t takes. -/
def partC (P : Program) (t : TypeId) (cs : List CV) (o : Nat) : Option CV :=
  match aggB P t, szOf P t with
  | some true, some n => cond (Nat.ble (o + n) cs.length) (some (.agg ((cs.drop o).take n))) none
  | some false, some _ => cs[o]?
  | _, _ => none
def writeC (cs : List CV) (o : Nat) (xs : List CV) : List CV := cs.take o ++ xs ++ cs.drop (o + xs.length)

/-- The parts of a composite, laid into its zero. -/
def fillC (place : Nat → Option (Nat × Nat)) : List (Nat × CV) → List CV → Option (List CV)
  | [], cs => some cs
  | (i, v) :: r, cs => match place i with
    | some (off, size) => cond (Nat.beq (cellsC v).length size && Nat.ble (off + size) cs.length) (fillC place r (writeC cs off (cellsC v))) none
    | none => none
def elemOf (P : Program) (t : TypeId) : Option TypeId :=
  match P.underlying t with
  | some (.slice e) => some e
  | _ => none
def bytesC (P : Program) (t : TypeId) : Option Nat := (P.info? t).map (·.bytes)

abbrev Res := Option (CV × VS)
def at1 (P : Program) (s : VS) (f : Value → Sem Value) (x : CV) : Res :=
  match toVal x with
  | some a => (match pureRun P (f a) with | some v => some (.at v, s) | none => none)
  | none => none
def at2 (P : Program) (s : VS) (f : Value → Value → Sem Value) (x y : CV) : Res :=
  match toVal x, toVal y with
  | some a, some b => (match pureRun P (f a b) with | some v => some (.at v, s) | none => none)
  | _, _ => none
def isNilV : Value → Bool
  | .pointer none | .slice none _ _ | .map none | .nilFunc | .nilIface => true
  | _ => false
/-- Equality where an address stands on a side: to nil, or to a place in the same block. -/
def eqC (P : Program) (t : TypeId) (x y : CV) : Option Bool :=
  match P.underlying t, x, y with
  | some (.pointer _), .ptr _ _, .at (.pointer none) => some false
  | some (.pointer _), .at (.pointer none), .ptr _ _ => some false
  | some (.slice _), .sl _ _ _ _, .at (.slice none _ _) => some false
  | some (.slice _), .gs _ _, .at (.slice none _ _) => some false
  | some (.slice _), .at (.slice none _ _), .sl _ _ _ _ => some false
  | some (.map _ _), .mp _, .at (.map none) => some false
  | some (.func _ _ _), .fn _ _ _, .at .nilFunc => some false
  | some (.interface _), .ifc _ _, .at .nilIface => some false
  | some (.interface _), .at .nilIface, .ifc _ _ => some false
  | some (.pointer e), .ptr b o, .ptr c p => match szOf P e with | some (_ + 1) => cond (Nat.beq b c) (some (Nat.beq o p)) none | _ => none
  | _, _, _ => none
def binC (P : Program) (s : VS) (op : BinOp) (t : TypeId) (xo yo : Operand) (x y : CV) : Res :=
  match at2 P s (fun a b => do eqGuard op t xo yo a b; binOp op t a b) x y with
  | some r => some r
  | none => match op with
    | .eql => (eqC P t x y).map fun b => (.at (.bool b), s)
    | .neq => (eqC P t x y).map fun b => (.at (.bool (!b)), s)
    | _ => none
def lookG (g : Nat) : List (Nat × CV) → Option CV
  | [] => none
  | (h, v) :: r => cond (Nat.beq h g) (some v) (lookG g r)
def lookA {α : Type} (k : Nat) : List (Nat × α) → Option α
  | [] => none
  | (h, v) :: r => cond (Nat.beq h k) (some v) (lookA k r)
def loadC (P : Program) (s : VS) (t : TypeId) : CV → Option CV
  | .at (.pointer (some ⟨g, 0, none⟩)) => match aggB P t with
    | some false => lookG g s.gl.v
    | _ => none
  | .gp k i => match aggB P t, lookA k s.gl.a with
    | some false, some l => (l[i]?).map .at
    | _, _ => none
  | .ptr b o => match s.blk b with
    | some k => partC P t k.cs o
    | none => none
  | _ => none
def storeC (P : Program) (s : VS) (t : TypeId) (x v : CV) : Option VS :=
  match x, szOf P t with
  | .ptr b o, some n => match s.blk b with
    | some k => cond (!k.fz && Nat.beq (cellsC v).length n && Nat.ble (o + n) k.cs.length && (cellsC v).all isCell) (some (s.put b (some { k with cs := writeC k.cs o (cellsC v) }))) none
    | none => none
  | _, _ => none
def newC (s : VS) (t : TypeId) (cs : List CV) (ex : Bool) : VS := s.new (some ⟨t, cs, ex, false⟩)
def fieldAddrC (P : Program) (t : TypeId) (x : CV) (f : Nat) : Option CV :=
  match P.underlying t, x with
  | some (.struct fs), .ptr b o => match fs[f]? with
    | some fd => (match szOf P fd.type with | some (_ + 1) => some (.ptr b (o + fd.offset)) | _ => none)
    | none => none
  | _, _ => none
def indexAddrC (P : Program) (s : VS) (t : TypeId) (x i : CV) : Option CV :=
  match P.underlying t, x, intOf i with
  | some (.array n et), .ptr b o, some i => match szOf P et with
    | some z => cond (decide (0 ≤ i) && decide (i < n)) (some (.ptr b (o + i.toNat * z))) none
    | none => none
  | some (.slice et), .sl b o n e, some i => match szOf P et with
    | some z => cond (Nat.beq z e && decide (0 ≤ i) && decide (i < n)) (some (.ptr b (o + i.toNat * z))) none
    | none => none
  | some (.slice et), .gs k n, some i => match szOf P et with
    | some 1 => cond (decide (0 ≤ i) && decide (i < n)) (some (.gp k i.toNat)) none
    | _ => none
  | some (.array n et), .at (.pointer (some ⟨g, 0, none⟩)), some i => match szOf P et, lookA g s.gl.n with
    | some 1, some k => cond (decide (0 ≤ i) && decide (i < n)) (some (.gp k i.toNat)) none
    | _, _ => none
  | _, _, _ => none
def boundC (d : Nat) : Option CV → Option Nat
  | none => some d
  | some c => match intOf c with | some i => cond (decide (0 ≤ i)) (some i.toNat) none | none => none
def sliceC (P : Program) (s : VS) (t : TypeId) (x : CV) (lo hi mx : Option CV) : Option CV :=
  match mx with
  | some _ => none
  | none => match P.underlying t, x with
    | some (.slice et), .sl b o n e => match szOf P et, boundC 0 lo, boundC n hi with
      | some z, some l, some h => cond (Nat.beq z e && Nat.ble l h && Nat.ble h n) (cond (Nat.beq l 0 || Nat.blt l n) (some (.sl b (o + l * e) (h - l) e)) (some (.esl b o l e))) none
      | _, _, _ => none
    | some (.array n et), .ptr b o => match szOf P et, boundC 0 lo, boundC n hi, s.blk b with
      | some z, some l, some h, some k => cond (k.ex && Nat.beq k.cs.length (o + n * z) && Nat.blt 0 z && Nat.ble l h && Nat.ble h n && Nat.blt l n) (some (.sl b (o + l * z) (h - l) z)) none
      | _, _, _, _ => none
    | _, _ => none
/-- What is appended: how many, and the cells. -/
def newsC (s : VS) (e : Nat) : CV → Option (Nat × List CV)
  | .sl b o n e' => match s.blk b with
    | some k => cond (Nat.beq e e' && Nat.ble (o + n * e) k.cs.length) (some (n, (k.cs.drop o).take (n * e))) none
    | none => none
  | .at (.slice none n _) => cond (Nat.beq n 0) (some (0, [])) none
  | .at (.string b) => cond (Nat.beq e 1) (some (b.data.toList.length, b.data.toList.map fun x => .at (.int .u8 x.toNat))) none
  | _ => none
def isIntD : TypeDesc → Bool
  | .int _ => true
  | _ => false
def appendX (s : VS) (et : TypeId) (e k : Nat) (news : List CV) (x : CV) : Res :=
  match x with
  | .at (.slice none 0 0) => cond (Nat.beq k 0) (some (x, s)) (some (.sl s.next 0 k e, newC s et news false))
  | .sl b o n e' => cond (Nat.beq e e' && Nat.ble n 1000000) (cond (Nat.beq k 0) (some (x, s)) (match s.blk b with
    | some kb => cond (!kb.fz) (cond (Nat.ble (o + (n + k) * e) kb.cs.length) (some (.sl b o (n + k) e, s.put b (some { kb with cs := writeC kb.cs (o + n * e) news })))
        (cond (Nat.ble (o + n * e) kb.cs.length) (cond kb.ex (some (.sl s.next 0 (n + k) e, newC s et ((kb.cs.drop o).take (n * e) ++ news) false))
          (cond (Nat.beq o 0 && Nat.beq (n * e) kb.cs.length && Nat.beq kb.ty et) (some (.sl s.next 0 (n + k) e, newC (s.put b none) et (kb.cs ++ news) false)) none)) none)) none
    | none => none)) none
  | _ => none
def appendC (P : Program) (s : VS) (ts : List TypeId) (x y : CV) : Res :=
  match ts with
  | [t, t2] => match elemOf P t, P.underlying t2 with
    | some et, some d2 => cond (isIntD d2) none (match szOf P et, bytesC P et, zeroOf P et with
        | some e, some by_, some z => match newsC s e y with
          | some (k, news) => cond (Nat.blt 0 e && Nat.beq z.cells.toList.length e && Nat.ble by_ 16384 && Nat.ble k 1000000 && news.all isCell) (appendX s et e k news x) none
          | none => none
        | _, _, _ => none)
    | _, _ => none
  | _ => none
def buildC (P : Program) (t : TypeId) (parts : List (Nat × CV)) : Option CV :=
  match zeroOf P t with
  | none => none
  | some z => match P.underlying t with
    | some (.struct fs) => match fs.toList.mapM (fun f => (P.info? f.type).map fun i => (f.offset, i.size)) with
      | some pl => (fillC (fun i => pl.toArray[i]?) parts (z.cells.toList.map .at)).map .agg
      | none => none
    | some (.array _ et) => match P.info? et with
      | some i => (fillC (fun j => some (j * i.size, i.size)) parts (z.cells.toList.map .at)).map .agg
      | none => none
    | _ => none
def repC (z : List CV) : Nat → List CV
  | 0 => []
  | n + 1 => z ++ repC z n
def buildSliceC (P : Program) (s : VS) (t : TypeId) (len : Nat) (parts : List (Nat × CV)) : Res :=
  match elemOf P t with
  | some et => match szOf P et, zeroOf P et with
    | some e, some z => cond (Nat.blt 0 e && Nat.beq z.cells.toList.length e && Nat.ble (len * e) 16777216)
      (match fillC (fun i => some (i * e, e)) parts (repC (z.cells.toList.map .at) len) with
        | some cs => some (.sl s.next 0 len e, newC s et cs true)
        | none => none) none
    | _, _ => none
  | none => none
def makeSliceC (P : Program) (s : VS) (t : TypeId) (l c : CV) : Res :=
  match elemOf P t, intOf l, intOf c with
  | some et, some l, some c => match szOf P et, zeroOf P et, bytesC P et with
    | some e, some z, some by_ => cond (Nat.blt 0 e && Nat.beq z.cells.toList.length e && Nat.ble by_ 16384 && decide (0 ≤ l) && decide (l ≤ c) && decide (c ≤ 1000000))
      (some (.sl s.next 0 l.toNat e, newC s et (repC (z.cells.toList.map .at) c.toNat) true)) none
    | _, _, _ => none
  | _, _, _ => none
def nilCheckC : CV → Option CV
  | .at (.pointer (some a)) => some (.at (.pointer (some a)))
  | .ptr b o => some (.ptr b o)
  | .gp k i => some (.gp k i)
  | .fn f a b => some (.fn f a b)
  | .at (.func (.func f) a b) => some (.at (.func (.func f) a b))
  | .ifc t v => some (.ifc t v)
  | .at (.iface t v) => some (.at (.iface t v))
  | _ => none
def extractC (i : Nat) : CV → Option CV
  | .tup l => l[i]?
  | .at (.tuple vs) => (vs.toList[i]?).map .at
  | _ => none
def fieldC (P : Program) (t : TypeId) (f : Nat) (x : CV) : Option CV :=
  match P.underlying t, x with
  | some (.struct fs), .agg l => match fs[f]? with
    | some fd => partC P fd.type l fd.offset
    | none => none
  | _, _ => none
def indexC (P : Program) (t : TypeId) (x i : CV) : Option CV :=
  match P.underlying t, x, intOf i with
  | some (.array n et), .agg l, some i => match szOf P et with
    | some z => cond (decide (0 ≤ i) && decide (i < n)) (partC P et l (i.toNat * z)) none
    | none => none
  | _, _, _ => none
def bytesFrom : List CV → Option (List UInt8)
  | [] => some []
  | .at (.int .u8 n) :: r => cond (decide (0 ≤ n) && decide (n < 256)) (match bytesFrom r with | some l => some (n.toNat.toUInt8 :: l) | none => none) none
  | _ => none
def convC (P : Program) (s : VS) (src dst : TypeId) (x : CV) : Res :=
  match at1 P s (convert src dst) x with
  | some r => some r
  | none => match P.underlying src, P.underlying dst, x with
    | some (.pointer e), some .unsafePointer, .ptr b o => match s.blk b, szOf P e with
      | some k, some (_ + 1) => cond (Nat.blt o k.cs.length) (some (.ptr b o, s)) none
      | _, _ => none
    | some .unsafePointer, some (.pointer e), .ptr b o => match s.blk b, szOf P e with
      | some k, some (_ + 1) => cond (k.ex && liesAt P P.depth k.ty (k.cs.length / P.cellsOf k.ty) o e 1) (some (.ptr b o, s)) none
      | _, _ => none
    | some .unsafePointer, some .unsafePointer, .ptr b o => some (.ptr b o, s)
    | some .string, some (.slice et), .at (.string x) => match P.underlying et with
      | some (.int .u8) => some (.sl s.next 0 x.data.toList.length 1, newC s et (x.data.toList.map fun c => .at (.int .u8 c.toNat)) false)
      | _ => none
    | some (.slice et), some .string, .sl b o n e => match P.underlying et, s.blk b with
      | some (.int .u8), some k => cond (Nat.beq e 1 && Nat.ble (o + n) k.cs.length) (match bytesFrom ((k.cs.drop o).take n) with
        | some l => some (.at (.string ⟨l.toArray⟩), s)
        | none => none) none
      | _, _ => none
    | _, _, _ => none
def lenC (P : Program) (s : VS) (t : TypeId) (x : CV) : Res :=
  match at1 P s (fun a => Builtin.len_ #[t] 0 #[a]) x with
  | some r => some r
  | none => match P.underlying t, x with
    | some (.slice _), .sl _ _ n _ => some (.at (.int .i64 n), s)
    | some (.slice _), .gs _ n => some (.at (.int .i64 n), s)
    | some (.slice _), .esl _ _ _ _ => some (.at (.int .i64 0), s)
    | _, _ => none
def clearC (P : Program) (s : VS) (t : TypeId) (x : CV) : Res :=
  match elemOf P t with
  | some et => match x, szOf P et, zeroOf P et with
    | .at (.slice none _ _), _, _ => some (.at (.tuple #[]), s)
    | .sl b o n e, some z, some v => cond (Nat.beq n 0) (some (.at (.tuple #[]), s)) (match s.blk b with
      | some k => cond (Nat.beq z e && Nat.beq v.cells.toList.length e && !k.fz && Nat.ble (o + n * e) k.cs.length && (v.cells.toList.map CV.at).all isCell) (some (.at (.tuple #[]), s.put b (some { k with cs := writeC k.cs o (repC (v.cells.toList.map .at) n) }))) none
      | none => none)
    | _, _, _ => none
  | none => none
def builtinC (P : Program) (s : VS) (b : Builtin) (ts : List TypeId) (ty : TypeId) (xs : List CV) : Res :=
  match b, ts, xs with
  | .len, [t], [x] => lenC P s t x
  | .append, ts, [x, y] => appendC P s ts x y
  | .clear, [t], [x] => clearC P s t x
  | .max, _, [x, y] => at2 P s (fun a b => Builtin.max_ ts.toArray ty #[a, b]) x y
  | .min, _, [x, y] => at2 P s (fun a b => Builtin.min_ ts.toArray ty #[a, b]) x y
  | .unsafeSliceData, _, [.sl b o n e] => cond (Nat.blt 0 n) (some (.ptr b o, s)) none
  | .unsafeString, [pt, _], [.ptr b 0, .at (.int .i64 n)] => match s.blk b, P.underlying pt with
    | some k, some (.pointer et) => cond (!k.fz && decide (0 < n) && decide (n ≤ 1000000) && Nat.ble n.toNat k.cs.length && Nat.beq (P.cellsOf et) 1 && Nat.beq k.ty et) (match bytesFrom (k.cs.take n.toNat) with
      | some l => some (.at (.string ⟨l.toArray⟩), s.put b (some { k with fz := true }))
      | none => none) none
    | _, _ => none
  | _, _, _ => none
def mapC (t : Tr CV) (l : List Operand) : List CV := l.map (ev t)
/-- A call of a function. -/
def calleeC (t : Tr CV) : Callee → Option (FuncId × List CV × List CV)
  | .value x => match ev t x with
    | .fn f a b => some (f, a, b)
    | .at (.func (.func f) a b) => some (f, a.toList.map .at, b.toList.map .at)
    | _ => none
  | _ => none
def sliceF (ty : TypeId) (lo hi : Option (Option Value)) (mx : Option Operand) (a : Value) : Sem Value :=
  match lo, hi, mx with
  | some none, _, _ | _, some none, _ | _, _, some _ => .halt .blocked
  | l, h, none => Instr.sliceAt ty a (l.bind id) (h.bind id) none
def opC (P : Program) (callF : FuncId → List CV → VS → Res) (t : Tr CV) (s : VS) : Op → Res
  | .move x | .assign x => some (ev t x, s)
  | .pick c a b => match boolOf (ev t c) with
    | some true => some (ev t a, s)
    | some false => some (ev t b, s)
    | none => none
  | .alloc et => match zeroOf P et with
    | some z => some (.ptr s.next 0, newC s et (z.cells.toList.map .at) true)
    | none => none
  | .box et x => some (.ptr s.next 0, newC s et (cellsC (ev t x)) true)
  | .build ty ps => (buildC P ty (ps.toList.map fun p => (p.1, ev t p.2))).map fun v => (v, s)
  | .buildSlice ty n ps => buildSliceC P s ty n (ps.toList.map fun p => (p.1, ev t p.2))
  | .load ty x => (loadC P s ty (ev t x)).map fun v => (v, s)
  | .store ty x v => (storeC P s ty (ev t x) (ev t v)).map fun s' => (.at undef, s')
  | .nilCheck x => (nilCheckC (ev t x)).map fun v => (v, s)
  | .binOp op ty x y _ => binC P s op ty x y (ev t x) (ev t y)
  | .unOp op _ x => at1 P s (Op.unary op) (ev t x)
  | .convert a b x => convC P s a b (ev t x)
  | .makeInterface ty x => match P.underlying ty with
    | some (.interface _) | none => none
    | some _ => some (.ifc ty (ev t x), s)
  | .makeFunc (.func f) a b => some (.fn f (mapC t a.toList) (mapC t b.toList), s)
  | .makeMap _ none => some (.mp s.next, s.new none)
  | .makeSlice ty l c => makeSliceC P s ty (ev t l) (ev t c)
  | .slice ty x lo hi mx => match at1 P s (sliceF ty (lo.map fun y => toVal (ev t y)) (hi.map fun y => toVal (ev t y)) mx) (ev t x) with
    | some r => some r
    | none => (sliceC P s ty (ev t x) (lo.map (ev t)) (hi.map (ev t)) (mx.map (ev t))).map fun v => (v, s)
  | .fieldAddr ty x f => (fieldAddrC P ty (ev t x) f).map fun v => (v, s)
  | .field ty x f => match at1 P s (fun a => Instr.field ty a f) (ev t x) with
    | some r => some r
    | none => (fieldC P ty f (ev t x)).map fun v => (v, s)
  | .indexAddr ty x i => (indexAddrC P s ty (ev t x) (ev t i)).map fun v => (v, s)
  | .index ty x i => match at2 P s (fun a b => Instr.index ty a b) (ev t x) (ev t i) with
    | some r => some r
    | none => (indexC P ty (ev t x) (ev t i)).map fun v => (v, s)
  | .extract x i => (extractC i (ev t x)).map fun v => (v, s)
  | .call c => match c.callee with
    | .builtin b => builtinC P s b c.argTypes.toList 0 (mapC t c.args.toList)
    | k => match calleeC t k with
      | some (f, a, b) => callF f (a ++ mapC t c.args.toList ++ b) s
      | none => none
  | _ => none

inductive Ex where
  | norm
  | ext (id : Nat)
  | ret
def putC (t : Tr CV) (d : Option Nat) (v : CV) : Tr CV := match d with | some d => t.set d v | none => t
/-- Whether an operation runs: its guard. -/
def wantC (ops : List Oper) (o : Oper) (t : Tr CV) : Option Bool :=
  match o.guard with
  | none => some true
  | some (j, w) => match (ops[j]?).bind (·.dst) with
    | some g => (match t.get g with
      | some (.at (.bool b)) => some (cond b w (!w))
      | some (.at (.tuple _)) => some false
      | none => some false
      | _ => none)
    | none => none
def opsC (P : Program) (callF : FuncId → List CV → VS → Res) (all : List Oper) : List Oper → Tr CV → VS → Option (Tr CV × VS)
  | [], t, s => some (t, s)
  | o :: r, t, s => match wantC all o t with
    | some true => (match opC P callF t s o.op with
      | some (v, s') => opsC P callF all r (putC t o.dst v) s'
      | none => none)
    | some false => opsC P callF all r (putC t o.dst (.at undef)) s
    | none => none
mutual
def beqCV : CV → CV → Bool
  | .at a, .at b => beqV a b
  | .ptr a b, .ptr c d => Nat.beq a c && Nat.beq b d
  | .sl a b c d, .sl a' b' c' d' => Nat.beq a a' && Nat.beq b b' && Nat.beq c c' && Nat.beq d d'
  | .gp a b, .gp c d => Nat.beq a c && Nat.beq b d
  | .gs a b, .gs c d => Nat.beq a c && Nat.beq b d
  | .esl a b c d, .esl a' b' c' d' => Nat.beq a a' && Nat.beq b b' && Nat.beq c c' && Nat.beq d d'
  | .agg l, .agg l' => beqCVs l l'
  | .tup l, .tup l' => beqCVs l l'
  | .fn f [] [], .fn g [] [] => Nat.beq f g
  | _, _ => false
def beqCVs : List CV → List CV → Bool
  | [], [] => true
  | a :: r, b :: r' => beqCV a b && beqCVs r r'
  | _, _ => false
def beqV : Value → Value → Bool
  | .bool a, .bool b => a == b
  | .int k a, .int k' b => decide (k = k') && decide (a = b)
  | .string a, .string b => decide (a.data.toList = b.data.toList)
  | .pointer none, .pointer none => true
  | .slice none 0 0, .slice none 0 0 => true
  | .nilFunc, .nilFunc => true
  | .nilIface, .nilIface => true
  | .tuple ⟨[]⟩, .tuple ⟨[]⟩ => true
  | .agg ⟨l⟩, .agg ⟨l'⟩ => beqVs l l'
  | _, _ => false
def beqVs : List Value → List Value → Bool
  | [], [] => true
  | a :: r, b :: r' => beqV a b && beqVs r r'
  | _, _ => false
end
/-- Variables that a drawn region makes: their blocks are numbered at its beginning. -/
def floatC (P : Program) (b : Nat) (s : VS) : Op → Res
  | .alloc et => match s.blk b, zeroOf P et with
    | some k, some z => cond (Nat.beq k.ty et && k.ex && !k.fz && beqCVs k.cs (z.cells.toList.map .at)) (some (.ptr b 0, s)) none
    | _, _ => none
  | _ => none
def fidsC : List Oper → Nat → List (Option Nat)
  | [], _ => []
  | o :: r, n => match o.op with
    | .alloc _ => some n :: fidsC r (n + 1)
    | _ => none :: fidsC r n
def floatsC (P : Program) : List Oper → VS → VS
  | [], s => s
  | o :: r, s => match o.op with
    | .alloc et => floatsC P r (match zeroOf P et with | some z => newC s et (z.cells.toList.map .at) true | none => s.new none)
    | _ => floatsC P r s
/-- One operation, or that it is passed over. -/
def stepC (P : Program) (callF : FuncId → List CV → VS → Res) (all : List Oper) (o : Oper) (fid : Option Nat) (t : Tr CV) (s : VS) : Res :=
  match wantC all o t with
  | some true => match fid with
    | some b => floatC P b s o.op
    | none => opC P callF t s o.op
  | some false => some (.at undef, s)
  | none => none
structure Stp where
  t : Tr CV
  v : CV
  eff : Bool
/-- The steps in the order of the text, and the states behind those that change something. -/
def traceC (P : Program) (callF : FuncId → List CV → VS → Res) (all : List Oper) (fids : List (Option Nat)) : Nat → List Oper → Tr CV → VS → Option (List Stp × List VS × Tr CV × VS)
  | _, [], t, s => some ([], [], t, s)
  | i, o :: r, t, s => match stepC P callF all o (fids[i]?).join t s with
    | some (v, s') => match traceC P callF all fids (i + 1) r (putC t o.dst v) s' with
      | some (st, hs, t', s'') => cond (Nat.beq s.ver s'.ver) (some (⟨t, v, false⟩ :: st, hs, t', s'')) (some (⟨t, v, true⟩ :: st, s' :: hs, t', s''))
      | none => none
    | none => none
def slotsOf (all : List Oper) (o : Oper) : List Nat :=
  (o.op.operands.toList.filterMap fun | .tmp t => some t | _ => none) ++ (match o.guard with | some (j, _) => ((all[j]?).bind (·.dst)).toList | none => [])
def beqO : Option Nat → Nat → Bool
  | some a, b => Nat.beq a b
  | none, _ => false
/-- The slots of an operation are written by none that may come before or behind it. -/
def apartC (all : List Oper) (ms : List Nat) (i : Nat) (sl : List Nat) (dst : Option Nat) : Nat → List Oper → Bool
  | _, [] => true
  | q, o :: r => (Nat.beq q i || ((match o.dst with | some d => !(beqO dst d) && (!(XE.hasN d sl) || Nat.testBit (ms.getD i 0) q || Nat.testBit (ms.getD q 0) i) | none => true))) && apartC all ms i sl dst (q + 1) r
def apartAll (all : List Oper) (ms : List Nat) : Nat → List Oper → Bool
  | _, [] => true
  | i, o :: r => apartC all ms i (slotsOf all o) o.dst 0 all && apartAll all ms (i + 1) r
/-- How many steps that change something meet a test. -/
def countE (f : Nat → Bool) : Nat → List Stp → Nat
  | _, [] => 0
  | i, x :: r => cond (x.eff && f i) (countE f (i + 1) r + 1) (countE f (i + 1) r)
def effB (ms : List Nat) (i : Nat) : Nat → List Stp → Bool
  | _, [] => true
  | q, x :: r => (!x.eff || Nat.beq q i || Nat.testBit (ms.getD i 0) q || Nat.testBit (ms.getD q 0) i) && effB ms i (q + 1) r
def sameAt (P : Program) (callF : FuncId → List CV → VS → Res) (all : List Oper) (o : Oper) (fid : Option Nat) (x : Stp) (h : VS) : Bool :=
  match stepC P callF all o fid x.t h with
  | some (v, h') => beqCV v x.v && Nat.beq h.ver h'.ver
  | none => false
/-- The steps that change nothing come to the same at each state at which they may come. -/
def allAt (f : VS → Bool) (lo hi c : Nat) : Nat → List VS → Bool
  | _, [] => true
  | j, h :: r => (Nat.blt j lo || Nat.blt hi j || Nat.beq j c || f h) && allAt f lo hi c (j + 1) r
def quietAll (P : Program) (callF : FuncId → List CV → VS → Res) (all : List Oper) (fids : List (Option Nat)) (ms : List Nat) (sts : List Stp) (hs : List VS) : Nat → Nat → List Oper → List Stp → Bool
  | i, c, o :: r, x :: xs => cond x.eff (effB ms i 0 sts) (allAt (sameAt P callF all o (fids[i]?).join x) (countE (fun q => Nat.testBit (ms.getD i 0) q) 0 sts) (hs.length - 1 - countE (fun q => Nat.testBit (ms.getD q 0) i) 0 sts) c 0 hs)
      && quietAll P callF all fids ms sts hs (i + 1) (cond x.eff (c + 1) c) r xs
  | _, _, _, _ => true
def drawC (P : Program) (callF : FuncId → List CV → VS → Res) (all : List Oper) (t : Tr CV) (s : VS) : Option (Tr CV × VS) :=
  match traceC P callF all (fidsC all s.next) 0 all t (floatsC P all s) with
  | some (sts, hs, t', s') => cond (XE.backOnly all 0 && apartAll all (XE.waitMasks all []) 0 all && quietAll P callF all (fidsC all s.next) (XE.waitMasks all []) sts (floatsC P all s :: hs) 0 0 all sts) (some (t', s')) none
  | none => none
def argsT : List CV → Nat → Tr CV → Tr CV
  | [], _, t => t
  | v :: r, n, t => argsT r (n + 1) (t.set n v)
def resC (P : Program) (t : Tr CV) (s : VS) : List ResultVar → Option (List CV)
  | [] => some []
  | x :: r => match (match x with | .tmp n => some ((t.get n).getD (.at undef)) | .cell a ty => loadC P s ty ((t.get a).getD (.at undef))), resC P t s r with
    | some v, some l => some (v :: l)
    | _, _ => none
def packC : List CV → CV
  | [v] => v
  | l => .tup l
def quietR (P : Program) : CV → Bool := fun v => (toVal v).isSome
def endC (P : Program) (fn : Func) (s0 : VS) : Option (Ex × Tr CV × VS) → Res
  | some (.norm, t, s) | some (.ret, t, s) => match resC P t s fn.results.toList with
    | some l => match toVal (packC l) with
      | some v => cond (Nat.ble s0.next s.low) (some (.at v, s0)) (some (.at v, { s with low := Nat.min s0.low s.low, ver := s.ver + 1 }))
      | none => some (packC l, { s with low := Nat.min s0.low s.low, ver := s.ver + 1 })
    | none => none
  | _ => none
/-- A function without a body that answers at once. -/
def externC (P : Program) (s : VS) (f : FuncId) (args : List CV) : Res :=
  match toVals args with
  | some us => (match pureRun P (callFunc f us.toArray) with
    | some (.value v) => some (.at v, s)
    | _ => none)
  | none => none
/-- 'funs': the functions that may be entered; 'orc': what is known of others. -/
def go (P : Program) (funs : FuncId → Option Func) (orc : FuncId → List CV → VS → Option Res) (idf : FuncId → Bool) : Nat → Code → Tr CV → VS → Option (Ex × Tr CV × VS)
  | 0, _, _, _ => none
  | n + 1, c, t, s => match c with
    | .skip => some (.norm, t, s)
    | .exit i => some (.ext i, t, s)
    | .ret => some (.ret, t, s)
    | .region _ ops draw => match (cond draw (drawC P) fun callF all t s => opsC P callF all all t s) (fun f args s => match orc f args s with
        | some r => r
        | none => match funs f with
          | some fn => (match fn.body with
            | some c => endC P fn s (go P funs orc idf n c (argsT args 0 .nil) { s with low := s.next })
            | none => (match idf f, args with
              | true, [v] => some (v, s)
              | _, _ => externC P s f args))
          | none => none) ops.toList t s with
      | some (t', s') => some (.norm, t', s')
      | none => none
    | .seq a b => match go P funs orc idf n a t s with
      | some (.norm, t', s') => go P funs orc idf n b t' s'
      | r => r
    | .cond x a b => match boolOf (ev t x) with
      | some true => go P funs orc idf n a t s
      | some false => go P funs orc idf n b t s
      | none => none
    | .block i a => match go P funs orc idf n a t s with
      | some (.ext j, t', s') => cond (Nat.beq i j) (some (.norm, t', s')) (some (.ext j, t', s'))
      | r => r
    | .loop a => match go P funs orc idf n a t s with
      | some (.norm, t', s') => go P funs orc idf n (.loop a) t' s'
      | r => r
    | _ => none
end Go.XR
/- How the evaluator's data lie in the model's memory. -/
namespace Go.XE

abbrev Cells := Nat → Nat → Prop
def cellsAt (w : World) (b o : Nat) (vs : List Value) : Prop := ∀ j v, vs[j]? = some v → w.cell? ⟨b, o + j, none⟩ = some v

/-- The cells of a datum; what stands behind slices stands in cells of C. -/
def Rep (w : World) (C : Cells) : (T : Ty) → den T → List Value → Prop
  | .int k, n, vs => vs = [.int k n]
  | .bool, b, vs => vs = [.bool b]
  | .str, s, vs => vs = [.string ⟨s.toArray⟩]
  | .unit, _, vs => vs = []
  | .pair a b, x, vs => ∃ u v, vs = u ++ v ∧ Rep w C a x.1 u ∧ Rep w C b x.2 v
  | .sl e, xs, vs => ∃ p cap, vs = [.slice p (List.length (α := den e) xs) cap] ∧ List.length (α := den e) xs ≤ cap ∧ (p = none → cap = 0) ∧
      ∀ a, p = some a → a.spot = none ∧ ∀ i y, (xs : List (den e))[i]? = some y →
        ∃ us, cellsAt w a.block (a.off + i * e.size) us ∧ (∀ j, j < e.size → C a.block (a.off + i * e.size + j)) ∧ Rep w C e y us
def RepV (w : World) (C : Cells) (T : Ty) (x : den T) (v : Value) : Prop :=
  (T.isSt = true ∧ ∃ cs, v = .agg cs ∧ Rep w C T x cs.toList) ∨ (T.isSt = false ∧ Rep w C T x [v])
def RepT (w : World) (C : Cells) : (T : Ty) → den T → List Value → Prop
  | .unit, _, vs => vs = []
  | .pair a b, x, vs => ∃ v r, vs = v :: r ∧ RepV w C a x.1 v ∧ RepT w C b x.2 r
  | _, _, _ => False

/-- Cells of 'S' stay as they are, and what blocks there are stay what they are. -/
structure Pre (S : Cells) (w w' : World) : Prop where
  size : w.heap.size ≤ w'.heap.size
  cells : ∀ (b : Nat) c e f, w.heap[b]? = some (.cells c e f) → ∃ c', w'.heap[b]? = some (.cells c' e f) ∧ c'.size = c.size ∧ ∀ j, S b j → c'[j]? = c[j]?
  other : ∀ (b : Nat) (o : Go.Obj), w.heap[b]? = some o → (∀ c e f, o ≠ Go.Obj.cells c e f) → w'.heap[b]? = some o

theorem Pre.refl (S : Cells) (w : World) : Pre S w w := ⟨Nat.le_refl _, fun _ c _ _ h => ⟨c, h, rfl, fun _ _ => rfl⟩, fun _ _ h _ => h⟩
theorem Pre.trans {S T : Cells} {w w' w'' : World} (h : Pre S w w') (h' : Pre T w' w'') (hs : ∀ b j, b < w.heap.size → S b j → T b j) : Pre S w w'' where
  size := Nat.le_trans h.size h'.size
  cells b c e f hb := by
    obtain ⟨c', h1, h2, h3⟩ := h.cells b c e f hb
    obtain ⟨c'', k1, k2, k3⟩ := h'.cells b c' e f h1
    have hlt : b < w.heap.size := (Array.getElem?_eq_some_iff.1 hb).1
    exact ⟨c'', k1, k2.trans h2, fun j hj => (k3 j (hs b j hlt hj)).trans (h3 j hj)⟩
  other b o hb ho := h'.other b o (h.other b o hb ho) ho
theorem Pre.mono {S T : Cells} {w w' : World} (h : Pre S w w') (hs : ∀ b j, b < w.heap.size → T b j → S b j) : Pre T w w' where
  size := h.size
  cells b c e f hb := by
    obtain ⟨c', h1, h2, h3⟩ := h.cells b c e f hb
    exact ⟨c', h1, h2, fun j hj => h3 j (hs b j (Array.getElem?_eq_some_iff.1 hb).1 hj)⟩
  other := h.other
theorem Pre.cell {S : Cells} {w w' : World} (h : Pre S w w') {b j : Nat} {v : Value} (hc : w.cell? ⟨b, j, none⟩ = some v) (hs : S b j) : w'.cell? ⟨b, j, none⟩ = some v := by
  unfold World.cell? at hc ⊢
  cases hb : w.heap[b]? with
  | none => simp [hb] at hc
  | some o =>
    cases o with
    | cells c e f =>
      obtain ⟨c', h1, _, h3⟩ := h.cells b c e f hb
      simp [hb] at hc
      simp [h1, h3 j hs, hc]
    | _ => simp [hb] at hc
theorem Pre.heap_of_all {w w' : World} (h : Pre (fun _ _ => True) w w') {b : Nat} {c : Array Value} {e : TypeId} {f : Nat × Nat} (hb : w.heap[b]? = some (.cells c e f)) : w'.heap[b]? = some (.cells c e f) := by
  obtain ⟨c', h1, h2, h3⟩ := h.cells b c e f hb
  have : c' = c := Array.ext_getElem? fun j => h3 j trivial
  rw [this] at h1; exact h1

theorem Rep.len {w : World} {C : Cells} : ∀ {T : Ty} {x : den T} {vs : List Value}, Rep w C T x vs → vs.length = T.size
  | .int _, _, _, h => by simp only [Rep] at h; subst h; rfl
  | .bool, _, _, h => by simp only [Rep] at h; subst h; rfl
  | .str, _, _, h => by simp only [Rep] at h; subst h; rfl
  | .unit, _, _, h => by simp only [Rep] at h; subst h; rfl
  | .sl _, _, _, h => by simp only [Rep] at h; obtain ⟨p, cap, rfl, _⟩ := h; rfl
  | .pair a b, x, vs, h => by
    simp only [Rep] at h
    obtain ⟨u, v, rfl, h1, h2⟩ := h
    have e1 := Rep.len h1
    have e2 := Rep.len h2
    simp [e1, e2, Ty.size]
theorem Rep.one {w : World} {C : Cells} : ∀ {T : Ty} {x : den T} {vs : List Value}, Rep w C T x vs → ∀ v ∈ vs, v.oneCell' = true
  | .int _, _, _, h => by simp only [Rep] at h; subst h; simp [Value.oneCell']
  | .bool, _, _, h => by simp only [Rep] at h; subst h; simp [Value.oneCell']
  | .str, _, _, h => by simp only [Rep] at h; subst h; simp [Value.oneCell']
  | .unit, _, _, h => by simp only [Rep] at h; subst h; simp
  | .sl _, _, _, h => by simp only [Rep] at h; obtain ⟨p, cap, rfl, _⟩ := h; simp [Value.oneCell']
  | .pair a b, x, vs, h => by
    simp only [Rep] at h
    obtain ⟨u, v, rfl, h1, h2⟩ := h
    intro y hy
    rcases List.mem_append.1 hy with hy | hy
    · exact Rep.one h1 y hy
    · exact Rep.one h2 y hy
theorem cellsAt.mono {w w' : World} {S : Cells} (hp : Pre S w w') {b o : Nat} {vs : List Value} (h : cellsAt w b o vs) (hs : ∀ j, j < vs.length → S b (o + j)) : cellsAt w' b o vs :=
  fun j v hv => hp.cell (h j v hv) (hs j (List.getElem?_eq_some_iff.1 hv).1)
theorem Rep.mono {w w' : World} {C C' : Cells} (hp : Pre C w w') (hc : ∀ b j, C b j → C' b j) : ∀ {T : Ty} {x : den T} {vs : List Value}, Rep w C T x vs → Rep w' C' T x vs
  | .int _, _, _, h => h
  | .bool, _, _, h => h
  | .str, _, _, h => h
  | .unit, _, _, h => h
  | .sl e, xs, vs, h => by
    simp only [Rep] at h ⊢
    obtain ⟨p, cap, rfl, h1, h2, h3⟩ := h
    refine ⟨p, cap, rfl, h1, h2, fun a ha => ⟨(h3 a ha).1, fun i y hy => ?_⟩⟩
    obtain ⟨us, k1, k2, k3⟩ := (h3 a ha).2 i y hy
    exact ⟨us, k1.mono hp fun j hj => k2 j (k3.len ▸ hj), fun j hj => hc _ _ (k2 j hj), Rep.mono hp hc k3⟩
  | .pair a b, x, vs, h => by
    simp only [Rep] at h ⊢
    obtain ⟨u, v, rfl, h1, h2⟩ := h
    exact ⟨u, v, rfl, Rep.mono hp hc h1, Rep.mono hp hc h2⟩
theorem RepV.mono {w w' : World} {C C' : Cells} (hp : Pre C w w') (hc : ∀ b j, C b j → C' b j) {T : Ty} {x : den T} {v : Value} (h : RepV w C T x v) : RepV w' C' T x v := by
  rcases h with ⟨h1, cs, rfl, h2⟩ | ⟨h1, h2⟩
  · exact .inl ⟨h1, cs, rfl, h2.mono hp hc⟩
  · exact .inr ⟨h1, h2.mono hp hc⟩
theorem RepT.mono {w w' : World} {C C' : Cells} (hp : Pre C w w') (hc : ∀ b j, C b j → C' b j) : ∀ {T : Ty} {x : den T} {vs : List Value}, RepT w C T x vs → RepT w' C' T x vs
  | .unit, _, _, h => h
  | .pair a b, x, vs, h => by
    simp only [RepT] at h ⊢
    obtain ⟨v, r, rfl, h1, h2⟩ := h
    exact ⟨v, r, rfl, h1.mono hp hc, RepT.mono hp hc h2⟩
  | .int _, _, _, h => h.elim
  | .bool, _, _, h => h.elim
  | .str, _, _, h => h.elim
  | .sl _, _, _, h => h.elim
/-- A datum of which no cell holds a slice stands nowhere else. -/
theorem Rep.noSl {w w' : World} {C C' : Cells} : ∀ {T : Ty} {x : den T} {vs : List Value}, noSl T = true → Rep w C T x vs → Rep w' C' T x vs
  | .int _, _, _, _, h => h
  | .bool, _, _, _, h => h
  | .str, _, _, _, h => h
  | .unit, _, _, _, h => h
  | .sl _, _, _, hn, _ => by simp [XE.noSl] at hn
  | .pair a b, x, vs, hn, h => by
    simp only [XE.noSl, Bool.and_eq_true] at hn
    simp only [Rep] at h ⊢
    obtain ⟨u, v, rfl, h1, h2⟩ := h
    exact ⟨u, v, rfl, Rep.noSl hn.1 h1, Rep.noSl hn.2 h2⟩
theorem Rep.cells {w : World} {C : Cells} {T : Ty} {x : den T} {v : Value} (h : RepV w C T x v) : Rep w C T x v.cells.toList := by
  rcases h with ⟨_, cs, rfl, h2⟩ | ⟨h1, h2⟩
  · exact h2
  · cases T <;> simp only [Rep, Ty.isSt] at h1 h2 <;> first | (cases h1; done) | (obtain ⟨p, cap, h2, rest⟩ := h2; cases h2; exact ⟨p, cap, rfl, rest⟩) | (cases h2; rfl)
end Go.XE
/- What a state of the evaluator says of a frame and of the memory, and how that is kept. -/
namespace Go.XE

inductive Lab where
  | no
  | obj (id : Nat)
  | ts (n off : Nat)
  | to (id off : Nat)
  | fl (k off : Nat)
structure AD where
  b : Nat
  o : Nat
  n : Nat
  T : Ty
/-- 'C': cells that stay; 'K': cells that this call doesn't write; 'L': to whom a block belongs; 'ad': where a local object lies; 'U': the numbers of objects that have been given. -/
structure Mem where
  w : World
  C : Cells
  K : Cells
  L : Nat → Lab
  ad : Nat → AD
  U : Nat → Prop

def tipTy : Ty → Nat → Option Ty
  | .sl e, 0 => some e
  | .pair a b, off => if off < a.size then tipTy a off else tipTy b (off - a.size)
  | _, _ => none
def tcells : Value → List Value
  | .tuple vs => vs.toList.flatMap (·.cells.toList)
  | v => v.cells.toList
def TipAt (m : Mem) (l : Lab) (e : Ty) (v : Value) : Prop :=
  v = .slice none 0 0 ∨ ∃ b n cap cur et, v = .slice (some ⟨b, 0, none⟩) n cap ∧ m.L b = l ∧ m.w.heap[b]? = some (Go.Obj.cells cur et (0, 0)) ∧ n ≤ cap ∧ cap * e.size ≤ cur.size ∧
    ∀ j, n * e.size ≤ j → ¬ m.C b j ∧ ¬ m.K b j
def TipsAt (m : Mem) (lab : Nat → Lab) (T : Ty) (cs : List Value) (ts : List Nat) : Prop :=
  ∀ off, off ∈ ts → ∀ e, tipTy T off = some e → ∃ v, cs[off]? = some v ∧ TipAt m (lab off) e v
def PAt (m : Mem) (d : D) (b o : Nat) : Prop := ∃ vs, cellsAt m.w b o vs ∧ Rep m.w m.C d.T d.x vs ∧ ∀ j, j < d.T.size → m.C b (o + j) ∨ m.K b (o + j)
def PtrTo (m : Mem) (d : D) (v : Value) : Prop := ∃ a : Addr, v = .pointer (some a) ∧ a.spot = none ∧ PAt m d a.block a.off
def BPtr (m : Mem) (id : Nat) (p : List Nat) (T : Ty) (v : Value) : Prop :=
  m.U id ∧ ∃ o, pathOff (m.ad id).T p = some (o, T) ∧ v = .pointer (some ⟨(m.ad id).b, (m.ad id).o + o, none⟩)
/-- A function that is called by its number. -/
def Enter (P : Program) (f : FuncId) : Prop := ∃ fn, P.funcs[f]? = some fn ∧ fn.body.isSome = true ∧ (fn.name == "runtime.NumGoroutine") = false
def FunOk (P : Program) (m : Mem) (A R : Ty) (g : den A → Option (den R)) (v : Value) : Prop :=
  ∃ f caps, v = .func (.func f) #[] caps ∧ Enter P f ∧ ∀ w' (C' : Cells), Pre (fun b j => m.C b j ∨ m.K b j) m.w w' → (∀ b j, m.C b j → C' b j) → (∀ b j, C' b j → b < w'.heap.size) →
    ∀ x vx y, RepV w' C' A x vx → g x = some y → Calls P f (#[vx] ++ caps) w' fun e w'' => ∃ u C'', e = .returned u ∧ Pre (fun _ _ => True) w' w'' ∧
      (∀ b j, C' b j → C'' b j) ∧ (∀ b j, C'' b j → b < w''.heap.size) ∧ (∀ b j, C'' b j → b < w'.heap.size → C' b j) ∧ RepV w'' C'' R y u
def RV0 (P : Program) (m : Mem) : V → Value → Prop
  | .bot, _ => True
  | .und, v => v = undef
  | .nilsl, v => v = .slice none 0 0
  | .kb b, v => v = .bool b
  | .dat d _, v => RepV m.w m.C d.T d.x v
  | .rp d, v => PtrTo m d v
  | .pv d, v => ∃ (a : Addr) (u : Value), v = .pointer (some a) ∧ a.spot = none ∧ m.w.cell? ⟨a.block, a.off, none⟩ = some u ∧ (m.C a.block a.off ∨ m.K a.block a.off) ∧ PtrTo m d u
  | .bp id p T, v => BPtr m id p T v
  | .ep id i p T, v => m.U id ∧ 0 ≤ i ∧ i < (m.ad id).n ∧ ∃ o, pathOff (m.ad id).T p = some (o, T) ∧ v = .pointer (some ⟨(m.ad id).b, i.toNat * (m.ad id).T.size + o, none⟩)
  | .own id, v => m.U id ∧ v = .slice (some ⟨(m.ad id).b, 0, none⟩) (m.ad id).n (m.ad id).n
  | .fn _ _, _ => False
  | .fun1 A R g, v => FunOk P m A R g v
  | .tup d, v => ∃ vs, v = .tuple vs ∧ RepT m.w m.C d.T d.x vs.toList
def RV (P : Program) (m : Mem) : V → Value → Prop
  | .fn f caps, v => ∃ vs : List Value, v = .func (.func f) #[] vs.toArray ∧ vs.length = caps.length ∧ ∀ i, RV0 P m (nthV caps i) (vs.getD i undef)
  | V, v => RV0 P m V v
def datOf : V → Option D
  | .dat d _ => some d
  | .tup d => some d
  | _ => none
def ObjOk (m : Mem) (id : Nat) : Obj → Prop
  | .box d => (m.ad id).T = d.T ∧ m.L (m.ad id).b = .obj id ∧ ∃ cur et vs, m.w.heap[(m.ad id).b]? = some (Go.Obj.cells cur et (0, 0)) ∧ (m.ad id).o + d.T.size ≤ cur.size ∧
      cellsAt m.w (m.ad id).b (m.ad id).o vs ∧ Rep m.w m.C d.T d.x vs ∧ ∀ j, j < d.T.size → ¬ m.C (m.ad id).b ((m.ad id).o + j) ∧ ¬ m.K (m.ad id).b ((m.ad id).o + j)
  | .vrp d => m.L (m.ad id).b = .obj id ∧ (m.ad id).T = .unit ∧ ∃ u, m.w.cell? ⟨(m.ad id).b, (m.ad id).o, none⟩ = some u ∧ PtrTo m d u
  | .vbp j p T => m.L (m.ad id).b = .obj id ∧ (m.ad id).T = .unit ∧ ∃ u, m.w.cell? ⟨(m.ad id).b, (m.ad id).o, none⟩ = some u ∧ BPtr m j p T u
  | .arr e xs fr => (m.ad id).T = e ∧ (m.ad id).n = xs.length ∧ m.L (m.ad id).b = .obj id ∧ 0 < e.size ∧ (∀ j, ¬ m.K (m.ad id).b j) ∧ (fr = false → ∀ j, ¬ m.C (m.ad id).b j) ∧
      ∃ cur et, m.w.heap[(m.ad id).b]? = some (Go.Obj.cells cur et (0, 0)) ∧ cur.size = xs.length * e.size ∧ ∀ i y, xs[i]? = some y → ∃ us, cellsAt m.w (m.ad id).b (i * e.size) us ∧ Rep m.w m.C e y us
def ProvOk (vars : Nat) (m : Mem) (s : St) (d : D) (cs : List Value) : Place → Prop
  | .slot k o => o = 0 ∧ Nat.testBit vars k = true ∧ ∀ off, off ∈ nthT s.stips k → ∀ e, tipTy d.T off = some e → ∃ v, cs[off]? = some v ∧ TipAt m (.ts k off) e v
  | .box i o => m.U i ∧ ∀ off, off ∈ lookT i s.otips → o ≤ off → off < o + d.T.size → ∀ e, tipTy d.T (off - o) = some e → ∃ v, cs[off - o]? = some v ∧ TipAt m (.to i off) e v
/-- What is known of a package-level variable: a datum, or all of its block. -/
inductive GV where
  | d (d : D)
  | o (o : Go.Obj)
def GAt (m : Mem) : GV → Nat → Prop
  | .d d, g => PAt m d g 0
  | .o o, g => m.w.heap[g]? = some o ∧ ∀ j, m.C g j ∨ m.K g j
structure Rel (P : Program) (G : Nat → Option GV) (vars : Nat) (m : Mem) (s : St) (tm : Array Value) : Prop where
  bC : ∀ b j, m.C b j → b < m.w.heap.size
  bK : ∀ b j, m.K b j → b < m.w.heap.size
  bL : ∀ b, m.L b ≠ .no → b < m.w.heap.size
  glob : ∀ g d, G g = some d → GAt m d g
  len : s.slots.length ≤ tm.size
  slots : ∀ n, RV P m (nthV s.slots n) (tm.getD n undef)
  stips : ∀ n d, datOf (nthV s.slots n) = some d → TipsAt m (.ts n) d.T (tcells (tm.getD n undef)) (nthT s.stips n)
  objs : ∀ id o, lookObj id s.objs = some o → m.U id ∧ ObjOk m id o
  otips : ∀ id d, lookObj id s.objs = some (.box d) → ∀ off, off ∈ lookT id s.otips → ∀ e, tipTy d.T off = some e →
    ∃ v, m.w.cell? ⟨(m.ad id).b, (m.ad id).o + off, none⟩ = some v ∧ TipAt m (.to id off) e v
  prov : s.fresh = true → ∀ n d p, nthV s.slots n = .dat d (some p) → ProvOk vars m s d (tcells (tm.getD n undef)) p

/-- The memory moves on: what is cold or not ours stays. -/
structure Mem.To (m m' : Mem) : Prop where
  pre : Pre (fun b j => m.C b j ∨ m.K b j) m.w m'.w
  C : ∀ b j, m.C b j → m'.C b j
  K : m'.K = m.K
  ad : ∀ id, m.U id → m'.ad id = m.ad id
  U : ∀ id, m.U id → m'.U id
theorem Mem.To.refl (m : Mem) : m.To m := ⟨.refl _ _, fun _ _ h => h, rfl, fun _ _ => rfl, fun _ h => h⟩
theorem Mem.To.rep {m m' : Mem} (h : m.To m') {T : Ty} {x : den T} {vs : List Value} (r : Rep m.w m.C T x vs) : Rep m'.w m'.C T x vs :=
  r.mono (h.pre.mono fun _ _ _ hc => .inl hc) h.C
theorem Mem.To.repV {m m' : Mem} (h : m.To m') {T : Ty} {x : den T} {v : Value} (r : RepV m.w m.C T x v) : RepV m'.w m'.C T x v :=
  r.mono (h.pre.mono fun _ _ _ hc => .inl hc) h.C
theorem Mem.To.repT {m m' : Mem} (h : m.To m') {T : Ty} {x : den T} {vs : List Value} (r : RepT m.w m.C T x vs) : RepT m'.w m'.C T x vs :=
  r.mono (h.pre.mono fun _ _ _ hc => .inl hc) h.C
theorem PAt.to {m m' : Mem} (h : m.To m') {d : D} {b o : Nat} (r : PAt m d b o) : PAt m' d b o := by
  obtain ⟨vs, h1, h2, h3⟩ := r
  refine ⟨vs, h1.mono h.pre fun j hj => h3 j (h2.len ▸ hj), h.rep h2, fun j hj => ?_⟩
  rcases h3 j hj with hc | hk
  · exact .inl (h.C _ _ hc)
  · exact .inr (by rw [h.K]; exact hk)
theorem Pre.heap {S : Cells} {w w' : World} (h : Pre S w w') {b : Nat} (hb : b < w.heap.size) (hs : ∀ j, S b j) : w'.heap[b]? = w.heap[b]? := by
  have hg : w.heap[b]? = some w.heap[b] := by simp [hb]
  cases ho : w.heap[b] with
  | cells c e f =>
    rw [ho] at hg
    obtain ⟨c', h1, h2, h3⟩ := h.cells b c e f hg
    have : c' = c := Array.ext_getElem? fun j => h3 j (hs j)
    rw [h1, hg, this]
  | _ =>
    rw [ho] at hg
    rw [h.other b _ hg (fun _ _ _ e => by cases e), hg]
theorem GAt.to {m m' : Mem} (h : m.To m') : ∀ {v : GV} {g : Nat}, GAt m v g → GAt m' v g
  | .d _, _, r => PAt.to h r
  | .o _, g, r => ⟨(h.pre.heap (Array.getElem?_eq_some_iff.1 r.1).1 r.2).trans r.1, fun j => (r.2 j).imp (h.C _ _) fun k => by rw [h.K]; exact k⟩
theorem PtrTo.to {m m' : Mem} (h : m.To m') {d : D} {v : Value} (r : PtrTo m d v) : PtrTo m' d v := by
  obtain ⟨a, h1, h2, h3⟩ := r
  exact ⟨a, h1, h2, h3.to h⟩
theorem BPtr.to {m m' : Mem} (h : m.To m') {id : Nat} {p : List Nat} {T : Ty} {v : Value} (r : BPtr m id p T v) : BPtr m' id p T v := by
  obtain ⟨h1, o, h2, h3⟩ := r
  refine ⟨h.U _ h1, o, ?_, ?_⟩ <;> rw [h.ad _ h1]
  · exact h2
  · exact h3
theorem FunOk.to {P : Program} {m m' : Mem} (h : m.To m') {A R : Ty} {g : den A → Option (den R)} {v : Value} (r : FunOk P m A R g v) : FunOk P m' A R g v := by
  obtain ⟨f, caps, h1, h2, h3⟩ := r
  refine ⟨f, caps, h1, h2, fun w' C' hp hc hb x vx y hx hg => h3 w' C' ?_ (fun b j hj => hc b j (h.C b j hj)) hb x vx y hx hg⟩
  exact h.pre.trans hp fun b j _ hs => hs.elim (fun a => .inl (h.C _ _ a)) fun a => .inr (by rw [h.K]; exact a)
theorem RV0.to {P : Program} {m m' : Mem} (h : m.To m') : ∀ {V : V} {v : Value}, RV0 P m V v → RV0 P m' V v
  | .bot, _, _ => trivial
  | .und, _, r => r
  | .nilsl, _, r => r
  | .kb _, _, r => r
  | .dat _ _, _, r => h.repV r
  | .rp _, _, r => PtrTo.to h r
  | .pv _, _, r => by
    obtain ⟨a, u, h1, h2, h3, h4, h5⟩ := r
    refine ⟨a, u, h1, h2, h.pre.cell h3 h4, ?_, h5.to h⟩
    rcases h4 with hc | hk
    · exact .inl (h.C _ _ hc)
    · exact .inr (by rw [h.K]; exact hk)
  | .bp _ _ _, _, r => BPtr.to h r
  | .ep _ _ _ _, _, r => by
    obtain ⟨h1, h2, h3, h4⟩ := r
    refine ⟨h.U _ h1, h2, ?_⟩
    rw [h.ad _ h1]
    exact ⟨h3, h4⟩
  | .own _, _, r => by
    obtain ⟨h1, h2⟩ := r
    exact ⟨h.U _ h1, by rw [h.ad _ h1]; exact h2⟩
  | .fn _ _, _, r => r.elim
  | .fun1 _ _ _, _, r => FunOk.to h r
  | .tup _, _, r => by
    obtain ⟨vs, h1, h2⟩ := r
    exact ⟨vs, h1, h.repT h2⟩
theorem RV.to {P : Program} {m m' : Mem} (h : m.To m') {V : V} {v : Value} (r : RV P m V v) : RV P m' V v := by
  cases V with
  | fn f caps =>
    obtain ⟨vs, h1, h2, h3⟩ := r
    exact ⟨vs, h1, h2, fun i => (h3 i).to h⟩
  | _ => simp only [RV] at r ⊢; exact r.to h
/-- A label that a state names. -/
def Live (s : St) : Lab → Prop
  | .obj id => lookObj id s.objs ≠ none
  | .ts n off => off ∈ nthT s.stips n
  | .to id off => off ∈ lookT id s.otips
  | _ => False
/-- The memory moves on, and what block a state names is not touched. -/
structure Mem.Keeps (m m' : Mem) (Λ : Lab → Prop) : Prop extends m.To m' where
  bC : ∀ b j, m'.C b j → b < m'.w.heap.size
  bL : ∀ b, m'.L b ≠ .no → b < m'.w.heap.size
  live : ∀ b, Λ (m.L b) → m'.L b = m.L b ∧ m'.w.heap[b]? = m.w.heap[b]? ∧ ∀ j, m'.C b j → m.C b j
theorem TipAt.to {m m' : Mem} {Λ : Lab → Prop} (h : m.Keeps m' Λ) {l : Lab} (hl : Λ l) {e : Ty} {v : Value} (r : TipAt m l e v) : TipAt m' l e v := by
  rcases r with r | ⟨b, n, cap, cur, et, h1, h2, h3, h4, h5, h6⟩
  · exact .inl r
  · have hk := h.live b (h2 ▸ hl)
    refine .inr ⟨b, n, cap, cur, et, h1, hk.1.trans h2, hk.2.1.trans h3, h4, h5, fun j hj => ⟨fun hc => (h6 j hj).1 (hk.2.2 j hc), ?_⟩⟩
    rw [h.K]
    exact (h6 j hj).2
theorem cell_of_heap {w w' : World} {b j : Nat} (h : w'.heap[b]? = w.heap[b]?) : w'.cell? ⟨b, j, none⟩ = w.cell? ⟨b, j, none⟩ := by simp [World.cell?, h]
theorem ObjOk.to {m m' : Mem} {Λ : Lab → Prop} (h : m.Keeps m' Λ) {id : Nat} (hu : m.U id) (hl : Λ (.obj id)) : ∀ {o : Obj}, ObjOk m id o → ObjOk m' id o
  | .box d, r => by
    obtain ⟨h1, h2, cur, et, vs, h3, h4, h5, h6, h7⟩ := r
    have hk := h.live (m.ad id).b (h2 ▸ hl)
    simp only [ObjOk, h.ad _ hu, h.K]
    exact ⟨h1, hk.1.trans h2, cur, et, vs, hk.2.1.trans h3, h4, fun j v hv => (cell_of_heap hk.2.1).trans (h5 j v hv), h.toTo.rep h6, fun j hj => ⟨fun hc => (h7 j hj).1 (hk.2.2 _ hc), (h7 j hj).2⟩⟩
  | .vrp d, r => by
    obtain ⟨h1, h2, u, h3, h4⟩ := r
    have hk := h.live (m.ad id).b (h1 ▸ hl)
    simp only [ObjOk, h.ad _ hu]
    exact ⟨hk.1.trans h1, h2, u, (cell_of_heap hk.2.1).trans h3, h4.to h.toTo⟩
  | .vbp j p T, r => by
    obtain ⟨h1, h2, u, h3, h4⟩ := r
    have hk := h.live (m.ad id).b (h1 ▸ hl)
    simp only [ObjOk, h.ad _ hu]
    exact ⟨hk.1.trans h1, h2, u, (cell_of_heap hk.2.1).trans h3, h4.to h.toTo⟩
  | .arr e xs fr, r => by
    obtain ⟨h1, h2, h3, h4, h5, h6, cur, et, h7, h8, h9⟩ := r
    have hk := h.live (m.ad id).b (h3 ▸ hl)
    simp only [ObjOk, h.ad _ hu, h.K]
    refine ⟨h1, h2, hk.1.trans h3, h4, h5, fun hf j hc => h6 hf j (hk.2.2 j hc), cur, et, hk.2.1.trans h7, h8, fun i y hy => ?_⟩
    obtain ⟨us, k1, k2⟩ := h9 i y hy
    exact ⟨us, fun j v hv => (cell_of_heap hk.2.1).trans (k1 j v hv), h.toTo.rep k2⟩
theorem Rel.move {P : Program} {G : Nat → Option GV} {vars : Nat} {m m' : Mem} {s : St} {tm : Array Value} (r : Rel P G vars m s tm) (h : m.Keeps m' (Live s)) : Rel P G vars m' s tm where
  bC := h.bC
  bK b j hk := by rw [h.K] at hk; exact Nat.lt_of_lt_of_le (r.bK b j hk) h.pre.size
  bL := h.bL
  glob g d hg := (r.glob g d hg).to h.toTo
  len := r.len
  slots n := (r.slots n).to h.toTo
  stips n d hd off ho e he := by
    obtain ⟨v, h1, h2⟩ := r.stips n d hd off ho e he
    exact ⟨v, h1, h2.to h (show Live s (.ts n off) from ho)⟩
  objs id o ho := ⟨h.U _ (r.objs id o ho).1, (r.objs id o ho).2.to h (r.objs id o ho).1 (by simp [Live, ho])⟩
  otips id d hd off ho e he := by
    obtain ⟨v, h1, h2⟩ := r.otips id d hd off ho e he
    have hu := (r.objs id _ hd).1
    have hl : m.L (m.ad id).b = .obj id := (r.objs id _ hd).2.2.1
    have hk := h.live (m.ad id).b (by rw [hl]; simp [Live, hd])
    rw [h.ad _ hu]
    exact ⟨v, (cell_of_heap hk.2.1).trans h1, h2.to h (show Live s (.to id off) from ho)⟩
  prov hf n d p hp := by
    have q := r.prov hf n d p hp
    cases p with
    | slot k o =>
      refine ⟨q.1, q.2.1, fun off ho e he => ?_⟩
      obtain ⟨v, h1, h2⟩ := q.2.2 off ho e he
      exact ⟨v, h1, h2.to h (show Live s (.ts k off) from ho)⟩
    | box i o =>
      refine ⟨h.U _ q.1, fun off ho h1 h2 e he => ?_⟩
      obtain ⟨v, k1, k2⟩ := q.2 off ho h1 h2 e he
      exact ⟨v, k1, k2.to h (show Live s (.to i off) from ho)⟩
end Go.XE
