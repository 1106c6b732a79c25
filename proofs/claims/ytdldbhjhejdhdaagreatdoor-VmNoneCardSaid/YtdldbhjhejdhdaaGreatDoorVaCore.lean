/- The abstract evaluator: abstract values, the abstract heap, one operation, a region in the text's order, code, calls. Definitions alone. -/
import Derived.Orders
import Derived.LoopN
import Derived.KernelRfl
import Derived.Laws.Sem
import Derived.Laws.World
set_option linter.unusedVariables false
namespace Go.Va

/-- Abstract values: an atom; anything; a private cell's address; a read-only row's address; a private slice; a read-only slice; .. -/
inductive AV where
  | v (x : Value)
  | any
  | ptr (r off : Nat)
  | rptr (row : List AV)
  | slice (r off sz len : Nat) (cap : Option Nat)
  | rslice (row : List AV) (len : Nat) (cap : Option Nat)
  | func (fn : Fn) (first captured : List AV)
  | iface (t : TypeId) (x : AV)
  | agg (cs : List AV)
  | tuple (vs : List AV)
  deriving Inhabited

/-- A private block. -/
structure Blk where
  t : TypeId
  cs : List AV
  deriving Inhabited

abbrev Heap := List (Nat × Blk)

def hget : Heap → Nat → Option Blk
  | [], _ => none
  | (s, b) :: H, r => bif Nat.beq s r then some b else hget H r

def hdel : Heap → Nat → Heap
  | [], _ => []
  | (s, b) :: H, r => bif Nat.beq s r then hdel H r else (s, b) :: hdel H r

def hput (H : Heap) (r : Nat) (b : Blk) : Heap := (r, b) :: hdel H r

/-- Those below a number. -/
def hlow : Heap → Nat → Heap
  | [], _ => []
  | (s, b) :: H, n => bif Nat.blt s n then (s, b) :: hlow H n else hlow H n

/-- One level of a concrete value told as an abstract one. -/
def AV.norm : AV → AV
  | .v (.agg cs) => .agg (cs.toList.map .v)
  | .v (.tuple vs) => .tuple (vs.toList.map .v)
  | .v (.iface t x) => .iface t (.v x)
  | .v (.func fn a b) => .func fn (a.toList.map .v) (b.toList.map .v)
  | x => x

/-- Its cells. -/
def AV.cells? : AV → Option (List AV)
  | .any => none
  | .agg cs => some cs
  | .v (.agg cs) => some (cs.toList.map .v)
  | x => some [x]

/-- May it be the value of one cell? -/
def AV.one : AV → Bool
  | .any | .agg _ | .tuple _ => false
  | .v (.agg _) | .v (.tuple _) => false
  | _ => true

mutual
/-- The concrete value, where it holds no address. -/
def AV.val? : AV → Option Value
  | .v x => some x
  | .any | .ptr .. | .rptr _ | .slice .. | .rslice .. | .func .. => none
  | .iface t x => (AV.val? x).map (.iface t ·)
  | .agg cs => (AV.vals? cs).map fun l => .agg l.toArray
  | .tuple vs => (AV.vals? vs).map fun l => .tuple l.toArray
def AV.vals? : List AV → Option (List Value)
  | [] => some []
  | x :: xs => (AV.val? x).bind fun u => (AV.vals? xs).map (u :: ·)
end

/-- What a program without effects answers. -/
def pureRun {α : Type} (P : Program) : Sem α → Option α
  | .pure a => some a
  | .program k => pureRun P (k P)
  | _ => none

section
variable (P : Program)

def isAgg? (t : TypeId) : Option Bool :=
  match P.underlying t with
  | some (.struct _) | some (.array _ _) => some true
  | some _ => some false
  | none => none

def zeroCells? (t : TypeId) : Option (List AV) :=
  match P.info? t with
  | some i => match i.zero with
    | some z => some (z.cells.toList.map .v)
    | none => none
  | none => none

def size? (t : TypeId) : Option Nat := (P.info? t).map (·.size)

def splice (cs : List AV) (off : Nat) (vs : List AV) : List AV := cs.take off ++ vs ++ cs.drop (off + vs.length)

def aPart (t : TypeId) (cs : List AV) (off : Nat) : Option AV :=
  match size? P t, isAgg? P t with
  | some n, some true => some (.agg ((cs.drop off).take n))
  | some _, some false => cs[off]?
  | _, _ => none

/-- A variable of type t at the head of a row of cells. -/
def aRead (t : TypeId) (cs : List AV) : Option AV :=
  match size? P t, isAgg? P t with
  | some n, some true => bif Nat.ble n cs.length then some (.agg (cs.take n)) else none
  | some _, some false => match cs with
      | x :: _ => some x
      | [] => none
  | _, _ => none

def aFill (place : Nat → Option (Nat × Nat)) : List AV → List (Nat × AV) → Option (List AV)
  | cells, [] => some cells
  | cells, (i, x) :: rest =>
    match place i, x.cells? with
    | some (off, size), some cs =>
      bif Nat.beq cs.length size && Nat.ble (off + cs.length) cells.length then aFill place (splice cells off cs) rest else none
    | _, _ => none

def fieldPlaces (fields : Array Field) : Option (List (Nat × Nat)) :=
  fields.toList.mapM fun f => (size? P f.type).map fun n => (f.offset, n)

def aBuild (t : TypeId) (parts : List (Nat × AV)) : Option AV :=
  match zeroCells? P t, P.underlying t with
  | some z, some (.struct fields) =>
    match fieldPlaces P fields with
    | some places => (aFill (places[·]?) z parts).map .agg
    | none => none
  | some z, some (.array _ elem) =>
    match size? P elem with
    | some size => (aFill (fun i => some (i * size, size)) z parts).map .agg
    | none => none
  | _, _ => none

/-- Zero cells of so many elements. -/
def zeroRow (z : List AV) : Nat → List AV
  | 0 => []
  | n + 1 => z ++ zeroRow z n

def aField (s : TypeId) (x : AV) (f : Nat) : Option AV :=
  match P.underlying s with
  | some (.struct fields) =>
    match fields[f]?, x.norm with
    | some fd, .agg cs => aPart P fd.type cs fd.offset
    | _, _ => none
  | _ => none

/-- The cells that lie at an address. -/
def at? (H : Heap) : AV → Option (List AV)
  | .ptr r off => match hget H r with
    | some b => some (b.cs.drop off)
    | none => none
  | .rptr row => some row
  | _ => none

def aFieldAddr (s : TypeId) (x : AV) (f : Nat) : Option AV :=
  match P.underlying s with
  | some (.struct fields) =>
    match fields[f]? with
    | some fd =>
      match size? P fd.type with
      | some (_ + 1) =>
        match x with
        | .ptr r off => some (.ptr r (off + fd.offset))
        | .rptr row => some (.rptr (row.drop fd.offset))
        | _ => none
      | _ => none
    | none => none
  | _ => none

/-- An index that is one. -/
def idx? (i : AV) (len : Nat) : Option Nat :=
  match i with
  | .v (.int _ n) => if 0 ≤ n ∧ n < (len : Int) then some n.toNat else none
  | _ => none

def aIndexAddr (t : TypeId) (x i : AV) : Option AV :=
  match P.underlying t with
  | some (.slice elem) =>
    match size? P elem, x with
    | some sz, .slice r off _ len _ => (idx? i len).map fun k => .ptr r (off + k * sz)
    | some sz, .rslice row len _ => (idx? i len).map fun k => .rptr (row.drop (k * sz))
    | _, _ => none
  | some (.array len elem) =>
    match size? P elem, x with
    | some sz, .ptr r off => (idx? i len).map fun k => .ptr r (off + k * sz)
    | some sz, .rptr row => (idx? i len).map fun k => .rptr (row.drop (k * sz))
    | _, _ => none
  | _ => none

def aIndex (t : TypeId) (x i : AV) : Option AV :=
  match P.underlying t with
  | some (.array len elem) =>
    match size? P elem, x.norm with
    | some sz, .agg cs => (idx? i len).bind fun k => aPart P elem cs (k * sz)
    | _, _ => none
  | _ => none

/-- A bound of a slice expression: none stands for the one that is not written. -/
def bound? (x : Option AV) (dflt most : Nat) : Option Nat :=
  match x with
  | none => some dflt
  | some (.v (.int _ n)) => if 0 ≤ n ∧ n ≤ (most : Int) then some n.toNat else none
  | _ => none

def capNe (cap : Option Nat) (l h : Nat) : Bool :=
  match cap with
  | some c => !Nat.beq c l
  | none => Nat.blt l h

/-- x[l:h:m] of a slice: low, high, capacity (if it is known). -/
def aSliceOf (t : TypeId) (x : AV) (lo hi mx : Option AV) : Option AV :=
  match P.underlying t with
  | some (.slice elem) =>
    match size? P elem, x with
    | some sz, .slice r off sz' len cap =>
      match mx with
      | none =>
        match bound? hi len (cap.getD len) with
        | some h => match bound? lo 0 h with
          | some l =>
            bif Nat.beq sz sz' && capNe cap l h then some (.slice r (off + l * sz) sz (h - l) (cap.map (· - l)))
            else bif Nat.beq h l then some (.rslice [] 0 (cap.map (· - l))) else none
          | none => none
        | none => none
      | some m =>
        match bound? (some m) 0 (cap.getD len) with
        | some m => match bound? hi m m with
          | some h => match bound? lo 0 h with
            | some l => bif hi.isSome then
                (bif Nat.beq m l then some (.rslice [] 0 (some 0)) else bif Nat.beq sz sz' then some (.slice r (off + l * sz) sz (h - l) (some (m - l))) else none) else none
            | none => none
          | none => none
        | none => none
    | some sz, .rslice row len cap =>
      match mx with
      | none =>
        match bound? hi len (cap.getD len) with
        | some h => match bound? lo 0 h with
          | some l => bif Nat.beq h l then some (.rslice [] 0 (cap.map (· - l))) else some (.rslice (row.drop (l * sz)) (h - l) (cap.map (· - l)))
          | none => none
        | none => none
      | some m =>
        match bound? (some m) 0 (cap.getD len) with
        | some m => match bound? hi m m with
          | some h => match bound? lo 0 h with
            | some l => bif hi.isSome then
                (bif Nat.beq h l then some (.rslice [] 0 (some (m - l))) else some (.rslice (row.drop (l * sz)) (h - l) (some (m - l)))) else none
            | none => none
          | none => none
        | none => none
    | _, _ => none
  | _ => none

/-- Nil against what is there. -/
def aNilEq (x y : AV) : Option Bool :=
  match x, y with
  | .ptr .., .v (.pointer none) | .rptr _, .v (.pointer none) | .v (.pointer none), .ptr .. | .v (.pointer none), .rptr _ => some false
  | .slice .., .v (.slice none _ _) | .rslice .., .v (.slice none _ _) | .v (.slice none _ _), .slice .. | .v (.slice none _ _), .rslice .. => some false
  | .func .., .v .nilFunc | .v .nilFunc, .func .. => some false
  | _, _ => none

def nilKind (t : TypeId) : Nat :=
  match P.underlying t with
  | some (.pointer _) => 1
  | some (.slice _) => 2
  | some (.func ..) => 3
  | _ => 0

def aNilCmp (t : TypeId) (x y : AV) : Option Bool :=
  match aNilEq x y with
  | some b =>
    match nilKind P t, x, y with
    | 1, .ptr .., _ | 1, .rptr _, _ | 1, _, .ptr .. | 1, _, .rptr _ => some b
    | 2, .slice .., _ | 2, .rslice .., _ | 2, _, .slice .. | 2, _, .rslice .. => some b
    | 3, .func .., _ | 3, _, .func .. => some b
    | _, _, _ => none
  | none => none

/-- The operands as concrete values, where all are. -/
def valOf (ev : Operand → AV) (x : Operand) : Value := ((ev x).val?).getD undef

def notSelect (op : Op) : Bool := match op with | .select .. => false | _ => true

/-- An operation whose operands hold no address, and that has no effect: the model's own text. -/
def aGeneric (o : Oper) (ev : Operand → AV) : Option AV :=
  bif o.op.operands.all (fun x => ((ev x).val?).isSome) && notSelect o.op then
    match pureRun P (execOp (valOf ev) o) with
    | some (.value u) => some (AV.norm (.v u))
    | _ => none
  else none

/-- Operations that look at no memory. -/
def aPure (o : Oper) (ev : Operand → AV) : Option AV :=
  match o.op with
  | .move x | .assign x => some (ev x)
  | .pick c a b =>
    match ev c with
    | .v (.bool t) => some (bif t then ev a else ev b)
    | _ => none
  | .build t parts => aBuild P t (parts.toList.map fun p => (p.1, ev p.2))
  | .field s x f => aField P s (ev x) f
  | .fieldAddr s x f => aFieldAddr P s (ev x) f
  | .indexAddr t x i => aIndexAddr P t (ev x) (ev i)
  | .index t x i => match aIndex P t (ev x) (ev i) with
    | some r => some r
    | none => aGeneric P o ev
  | .extract x i =>
    match (ev x).norm with
    | .tuple vs => vs[i]?
    | _ => none
  | .nilCheck x =>
    match ev x with
    | .ptr r off => some (.ptr r off)
    | .rptr row => some (.rptr row)
    | .func (.func f) a b => some (.func (.func f) a b)
    | _ => none
  | .makeInterface t x =>
    match P.underlying t with
    | some (.interface _) | none => none
    | _ => some (.iface t (ev x))
  | .makeFunc fn first captured => some (.func fn (first.toList.map ev) (captured.toList.map ev))
  | .slice t x lo hi mx => match aSliceOf P t (ev x) (lo.map ev) (hi.map ev) (mx.map ev) with
    | some r => some r
    | none => aGeneric P o ev
  | .binOp op t x y _ =>
    match op with
    | .eql => match aNilCmp P t (ev x) (ev y) with
      | some b => some (.v (.bool b))
      | none => aGeneric P o ev
    | .neq => match aNilCmp P t (ev x) (ev y) with
      | some b => some (.v (.bool (!b)))
      | none => aGeneric P o ev
    | _ => aGeneric P o ev
  | .call { callee := .builtin b, args, argTypes } =>
    match b, args.toList, argTypes.toList with
    | .len, [x], [t] =>
      match P.underlying t, ev x with
      | some (.slice _), .slice _ _ _ len _ | some (.slice _), .rslice _ len _ => some (.v (goInt len))
      | some (.pointer a), _ => match P.underlying a with
        | some (.array n _) => some (.v (goInt n))
        | _ => none
      | _, _ => aGeneric P o ev
    | .cap, [x], [t] =>
      match P.underlying t, ev x with
      | some (.slice _), .slice _ _ _ _ (some c) | some (.slice _), .rslice _ _ (some c) => some (.v (goInt c))
      | _, _ => aGeneric P o ev
    | .min, _, _ | .max, _, _ => aGeneric P o ev
    | _, _, _ => none
  | .unOp .. | .convert .. => aGeneric P o ev
  | _ => none

end
end Go.Va
