/- The abstract evaluator, second part: operations with effects, regions, code, calls. Definitions alone. -/
import Derived.Test.YtdldbhjhejdhdaaGreatDoorVaCore
set_option linter.unusedVariables false
namespace Go.Va

def undefA : AV := .tuple []

/-- Temporaries: a tree by number; number 0 at the root, odd ones to the left. Where it has no place nothing is known. -/
inductive T where
  | e
  | n (x : AV) (l r : T)
  deriving Inhabited

def T.get : T → Nat → AV
  | .e, _ => .any
  | .n x l r, i => bif Nat.beq i 0 then x else bif Nat.beq (Nat.mod i 2) 1 then T.get l (Nat.div i 2) else T.get r (Nat.sub (Nat.div i 2) 1)

def T.set : T → Nat → AV → T
  | .e, _, _ => .e
  | .n x l r, i, v => bif Nat.beq i 0 then .n v l r else bif Nat.beq (Nat.mod i 2) 1 then .n x (T.set l (Nat.div i 2) v) r else .n x l (T.set r (Nat.sub (Nat.div i 2) 1) v)

def T.fill (x : AV) : Nat → T
  | 0 => .e
  | d + 1 => .n x (T.fill x d) (T.fill x d)

def T.sets (t : T) (k : Nat) : List AV → T
  | [] => t
  | x :: xs => T.sets (T.set t k x) (k + 1) xs

structure Env where
  N : Nat
  t : T
  deriving Inhabited

def Env.get (E : Env) (i : Nat) : AV := bif Nat.blt i E.N then T.get E.t i else undefA

def Env.init (ntmps : Nat) (args : List AV) : Env := ⟨args.length + (ntmps - args.length), T.sets (T.fill undefA (Nat.log2 (args.length + (ntmps - args.length)) + 2)) 0 args⟩

def aev (tmps : Env) : Operand → AV
  | .tmp t => tmps.get t
  | .const v => AV.norm (.v v)
  | .global g => .v (.pointer (some ⟨g, 0, none⟩))
  | .func f => .func (.func f) [] []

def aPut (tmps : Env) (dst : Option Tmp) (x : AV) : Env :=
  match dst with
  | some d => bif Nat.blt d tmps.N then ⟨tmps.N, T.set tmps.t d x⟩ else tmps
  | none => tmps

/-- A call: function, arguments, heap, next number. -/
abbrev Caller1 := List AV → Heap → Nat → Option (AV × Heap × Nat)
abbrev Caller := FuncId → Caller1

section
variable (P : Program)

/-- What an operation that makes a block makes. -/
def aAlloc (op : Op) (ev : Operand → AV) (r : Nat) : Option (Blk × AV) :=
  match op with
  | .alloc elem => (zeroCells? P elem).map fun z => (⟨elem, z⟩, .ptr r 0)
  | .box elem x => (ev x).cells?.map fun cs => (⟨elem, cs⟩, .ptr r 0)
  | .buildSlice t len parts =>
    match P.underlying t with
    | some (.slice elem) =>
      match size? P elem, zeroCells? P elem with
      | some sz, some z =>
        bif Nat.ble (len * sz) (2 ^ 24) && Nat.beq z.length sz then
          (aFill (fun i => some (i * sz, sz)) (zeroRow z len) (parts.toList.map fun p => (p.1, ev p.2))).map fun cs => (⟨elem, cs⟩, .slice r 0 sz len (some len))
        else none
      | _, _ => none
    | _ => none
  | .makeSlice t l c =>
    match P.underlying t with
    | some (.slice elem) =>
      match size? P elem, zeroCells? P elem, P.info? elem, ev l, ev c with
      | some sz, some z, some i, .v (.int _ l), .v (.int _ c) =>
        if 0 ≤ l ∧ l ≤ c ∧ (i.bytes : Int) * c ≤ 2 ^ 48 ∧ c ≤ 2 ^ 62 then
          bif Nat.beq z.length sz then some (⟨elem, zeroRow z c.toNat⟩, .slice r 0 sz l.toNat (some c.toNat)) else none
        else none
      | _, _, _, _, _ => none
    | _ => none
  | _ => none

def aLoad (t : TypeId) (a : AV) (H : Heap) : Option AV :=
  match at? H a with
  | some cs => aRead P t cs
  | none => none

/-- The first n elements of what is appended or copied. -/
def srcCells (H : Heap) (sz : Nat) (x : AV) : Option (List AV × Nat) :=
  match x with
  | .slice r off sz' len _ =>
    match hget H r with
    | some b => bif Nat.beq sz sz' && Nat.ble (off + len * sz) b.cs.length then some ((b.cs.drop off).take (len * sz), len) else none
    | none => none
  | .rslice row len _ => bif Nat.ble (len * sz) row.length then some (row.take (len * sz), len) else none
  | .v (.slice none 0 0) => some ([], 0)
  | _ => none

def roomOk (need bytes : Nat) : Bool := Nat.ble ((2 * need + 1024) * bytes) (2 ^ 48) && Nat.ble need (2 ^ 62)

def aAppend (t t2 : TypeId) (s x : AV) (H : Heap) (n : Nat) : Option (AV × Heap × Nat) :=
  match P.underlying t, P.underlying t2 with
  | some (.slice elem), some (.slice _) =>
    match P.info? elem, zeroCells? P elem with
    | some i, some z =>
      bif !Nat.beq z.length i.size then none else
      match srcCells H i.size x with
      | some (new, m) =>
        match s with
        | .v (.slice none 0 0) =>
          bif Nat.beq m 0 then some (.v (.slice none 0 0), H, n)
          else bif roomOk m i.bytes then some (.slice n 0 i.size m none, hput H n ⟨elem, new⟩, n + 1) else none
        | .rslice row len cap =>
          bif Nat.beq m 0 then some (.rslice row len cap, H, n)
          else match cap with
            | some c => bif Nat.blt c (len + m) && roomOk (len + m) i.bytes && Nat.ble (len * i.size) row.length then
                some (.slice n 0 i.size (len + m) none, hput H n ⟨elem, row.take (len * i.size) ++ new⟩, n + 1) else none
            | none => none
        | .slice r off sz len cap =>
          bif Nat.beq m 0 then some (.slice r off sz len cap, H, n)
          else bif !Nat.beq sz i.size then none
          else match hget H r with
            | none => none
            | some b =>
              match cap with
              | some c =>
                bif Nat.ble (len + m) c then
                  (bif Nat.ble (off + (len + m) * sz) b.cs.length && new.all AV.one then some (.slice r off sz (len + m) (some c), hput H r { b with cs := splice b.cs (off + len * sz) new }, n) else none)
                else bif roomOk (len + m) i.bytes && Nat.ble (off + len * sz) b.cs.length then
                  some (.slice n 0 sz (len + m) none, hput H n ⟨elem, (b.cs.drop off).take (len * sz) ++ new⟩, n + 1) else none
              | none =>
                bif Nat.beq off 0 && Nat.beq b.t elem && Nat.beq b.cs.length (len * sz) && roomOk (len + m) i.bytes && new.all AV.one then
                  some (.slice n 0 sz (len + m) none, hput (hdel H r) n ⟨elem, b.cs ++ new⟩, n + 1) else none
        | _ => none
      | none => none
    | _, _ => none
  | _, _ => none

def aCopy (t : TypeId) (d x : AV) (H : Heap) (n : Nat) : Option (AV × Heap × Nat) :=
  match P.underlying t with
  | some (.slice elem) =>
    match size? P elem with
    | some sz =>
      match srcCells H sz x with
      | some (new, m) =>
        match d with
        | .slice r off sz' len _ =>
          match hget H r with
          | some b =>
            let k := Nat.min m len
            bif Nat.beq sz sz' && Nat.ble (off + k * sz) b.cs.length && (new.take (k * sz)).all AV.one then
              some (.v (goInt k), hput H r { b with cs := splice b.cs off (new.take (k * sz)) }, n)
            else none
          | none => none
        | .v (.slice none 0 0) => some (.v (goInt 0), H, n)
        | _ => none
      | none => none
    | none => none
  | _ => none

def aStore (t : TypeId) (a x : AV) (H : Heap) : Option Heap :=
  match a, x.cells?, size? P t with
  | .ptr r off, some cs, some n =>
    match hget H r with
    | some b => bif Nat.beq cs.length n && Nat.ble (off + n) b.cs.length && cs.all AV.one then some (hput H r { b with cs := splice b.cs off cs }) else none
    | none => none
  | _, _, _ => none

def aEff (call : Caller) (op : Op) (ev : Operand → AV) (H : Heap) (n : Nat) : Option (AV × Heap × Nat) :=
  match op with
  | .store t a x => (aStore P t (ev a) (ev x) H).map fun H' => (undefA, H', n)
  | .call { callee := .value f, args, .. } =>
    match ev f with
    | .func (.func k) first captured => call k (first ++ args.toList.map ev ++ captured) H n
    | _ => none
  | .call { callee := .builtin b, args, argTypes } =>
    match b, args.toList, argTypes.toList with
    | .append, [s, x], [t, t2] => aAppend P t t2 (ev s) (ev x) H n
    | .copy, [d, x], t :: _ => aCopy P t (ev d) (ev x) H n
    | _, _, _ => none
  | _ => none

def isL (op : Op) : Bool := match op with | .load .. => true | _ => false
def isA (op : Op) : Bool := match op with | .alloc .. | .box .. | .buildSlice .. | .makeSlice .. => true | _ => false
def isE (op : Op) : Bool :=
  match op with
  | .store .. => true
  | .call { callee := .builtin b, .. } => match b with | .len | .cap | .min | .max => false | _ => true
  | .call _ => true
  | _ => false

def aOp (call : Caller) (o : Oper) (ev : Operand → AV) (H : Heap) (n : Nat) : Option (AV × Heap × Nat) :=
  match isL o.op, isA o.op, isE o.op with
  | true, _, _ => match o.op with
    | .load t a => (aLoad P t (ev a) H).map (·, H, n)
    | _ => none
  | _, true, _ => (aAlloc P o.op ev n).map fun bx => (bx.2, hput H n bx.1, n + 1)
  | _, _, true => aEff P call o.op ev H n
  | _, _, _ => (aPure P o ev).map (·, H, n)

def aWanted (ops : Array Oper) (o : Oper) (tmps : Env) : Option Bool :=
  match o.guard with
  | none => some true
  | some (j, want) =>
    match (ops[j]?).bind (·.dst) with
    | none => some false
    | some d => match tmps.get d with
      | .v (.bool b) => some (b == want)
      | .tuple [] => some false
      | _ => none

/-- Operations in the text's order. -/
def aOps (call : Caller) (ops : Array Oper) : List Oper → Env → Heap → Nat → Option (Env × Heap × Nat)
  | [], tmps, H, n => some (tmps, H, n)
  | o :: rest, tmps, H, n =>
    match aWanted ops o tmps with
    | some true => match aOp P call o (aev tmps) H n with
      | some (x, H', n') => aOps call ops rest (aPut tmps o.dst x) H' n'
      | none => none
    | some false => aOps call ops rest (aPut tmps o.dst undefA) H n
    | none => none

/-! ### A region that draws its order -/

/-- Which operations come ahead of each: bits. -/
def befores (ops : Array Oper) : List Nat := (Region.before ops).toList

def bit (B : List Nat) (j i : Nat) : Bool := (B.getD j 0).testBit i

/-- An order in which what makes a block comes as late as may be ahead of effects. -/
def lazyOrder (ops : Array Oper) (B : List Nat) : List Nat :=
  let n := ops.size
  let es := (List.range n).filter fun i => isE (ops.getD i default).op
  let put (acc : List Nat) (e : Nat) : List Nat := bif acc.contains e then acc else acc ++ ((List.range n).filter fun i => bit B e i && !acc.contains i) ++ [e]
  let acc := es.foldl put []
  acc ++ (List.range n).filter fun i => !acc.contains i

def preds (o : Oper) : List Nat := (o.after.toList.filter (Region.binds .any)).map (·.on)

/-- Each operation's predecessors. -/
def predsOf (ops : Array Oper) : List (List Nat) := ops.toList.map preds

/-- Each operation once, each behind those that it waits for. -/
def linB (n : Nat) (pr : List (List Nat)) : List Nat → List Nat → Bool
  | S, [] => (List.range n).all fun j => S.contains j
  | S, j :: l => Nat.blt j n && !S.contains j && (pr.getD j []).all (fun e => S.contains e) && linB n pr (j :: S) l

def foldBits (B : List Nat) (l : List Nat) : Nat := l.foldr (fun e s => s ||| 2 ^ e ||| B.getD e 0) 0

/-- What is asked of a region's text: the order goes by the predecessors; the bits are theirs; every temporary has one writer, and who looks at it comes behind the writer or ahead of it by the predecessors; of two effects one waits for the other. -/
def drawOk (ops : Array Oper) (pr : List (List Nat)) (B π : List Nat) : Bool :=
  linB ops.size pr [] π && Nat.ble π.length ops.size &&
  ((List.range ops.size).all fun j => Nat.beq (B.getD j 0) (foldBits B (pr.getD j []))) &&
  ((List.range ops.size).all fun i => match (ops.getD i default).dst with
    | none => true
    | some d => (List.range ops.size).all fun j => match (ops.getD j default).dst with
      | none => true
      | some e => Nat.beq i j || !Nat.beq d e) &&
  ((List.range ops.size).all fun j => (Oper.looksAt ops (ops.getD j default)).all fun t => (List.range ops.size).all fun i => match (ops.getD i default).dst with
    | none => true
    | some e => !Nat.beq e t || bit B j i || bit B i j) &&
  ((List.range ops.size).all fun i => !isE (ops.getD i default).op || (List.range ops.size).all fun j =>
    Nat.beq i j || bit B j i || bit B i j || !isE (ops.getD j default).op)

mutual
def valEq : Value → Value → Bool
  | .bool a, .bool b => a == b
  | .int k a, .int l b => k == l && decide (a = b)
  | .float k a, .float l b => k == l && Nat.beq a b
  | .complex k a b, .complex l c d => k == l && Nat.beq a c && Nat.beq b d
  | .string a, .string b => decide (a.data.toList = b.data.toList)
  | .pointer a, .pointer b => decide (a = b)
  | .slice a n c, .slice b m d => decide (a = b) && Nat.beq n m && Nat.beq c d
  | .map a, .map b => decide (a = b)
  | .chan a, .chan b => decide (a = b)
  | .func f a b, .func g c d => decide (f = g) && arrEq a c && arrEq b d
  | .nilFunc, .nilFunc => true
  | .iface t x, .iface u y => Nat.beq t u && valEq x y
  | .nilIface, .nilIface => true
  | .agg a, .agg b => arrEq a b
  | .tuple a, .tuple b => arrEq a b
  | _, _ => false
def arrEq : Array Value → Array Value → Bool
  | ⟨a⟩, ⟨b⟩ => valsEq a b
def valsEq : List Value → List Value → Bool
  | [], [] => true
  | x :: xs, y :: ys => valEq x y && valsEq xs ys
  | _, _ => false
end

mutual
def aEq : AV → AV → Bool
  | .v x, .v y => valEq x y
  | .any, .any => true
  | .ptr r o, .ptr s p => Nat.beq r s && Nat.beq o p
  | .rptr a, .rptr b => asEq a b
  | .slice a b c d e, .slice f g h i j => Nat.beq a f && Nat.beq b g && Nat.beq c h && Nat.beq d i && decide (e = j)
  | .rslice a n c, .rslice b m d => asEq a b && Nat.beq n m && decide (c = d)
  | .func f a b, .func g c d => decide (f = g) && asEq a c && asEq b d
  | .iface t x, .iface u y => Nat.beq t u && aEq x y
  | .agg a, .agg b => asEq a b
  | .tuple a, .tuple b => asEq a b
  | _, _ => false
def asEq : List AV → List AV → Bool
  | [], [] => true
  | x :: xs, y :: ys => aEq x y && asEq xs ys
  | _, _ => false
end

structure DS where
  tmps : Env
  C : Heap
  n : Nat
  /-- blocks made since the last effect: the operation's number, the block's, the block -/
  pend : List (Nat × Nat × Blk)
  /-- the effects so far, and the heaps behind them and ahead of them all, the newest first -/
  done : List Nat
  hist : List Heap
  /-- what has been loaded: operation, type, address, value -/
  loads : List (Nat × TypeId × AV × AV)

def loadIs (t : TypeId) (a v : AV) (H : Heap) : Bool :=
  match aLoad P t a H with
  | some u => aEq u v
  | none => false

def loadBack (B : List Nat) (j : Nat) (t : TypeId) (a v : AV) : List Nat → List Heap → Bool
  | e :: done, C :: hist => loadIs P t a v C && (bit B j e || loadBack B j t a v done hist)
  | [], C :: _ => loadIs P t a v C
  | _, [] => false

def commit (C : Heap) (pend : List (Nat × Nat × Blk)) : Heap := pend.foldr (fun p H => hput H p.2.1 p.2.2) C

def dStep (call : Caller) (ops : Array Oper) (B : List Nat) (n0 : Nat) (j : Nat) (d : DS) : Option DS :=
  match ops[j]? with
  | none => none
  | some o =>
    match aWanted ops o d.tmps with
    | none => none
    | some false => some { d with tmps := aPut d.tmps o.dst undefA }
    | some true =>
      match isL o.op, isA o.op, isE o.op with
      | true, _, _ => match o.op with
        | .load t a => match aLoad P t (aev d.tmps a) d.C with
          | some v => bif loadBack P B j t (aev d.tmps a) v d.done d.hist then some { d with tmps := aPut d.tmps o.dst v, loads := (j, t, aev d.tmps a, v) :: d.loads } else none
          | none => none
        | _ => none
      | _, true, _ => match aAlloc P o.op (aev d.tmps) (n0 + j) with
        | some bx => some { d with tmps := aPut d.tmps o.dst bx.2, pend := (j, n0 + j, bx.1) :: d.pend }
        | none => none
      | _, _, true =>
        bif d.pend.all (fun p => bit B j p.1) then
          match aEff P call o.op (aev d.tmps) (commit d.C d.pend) d.n with
          | some (x, H, n) =>
            bif d.loads.all (fun l => bit B j l.1 || loadIs P l.2.1 l.2.2.1 l.2.2.2 H) then
              some { tmps := aPut d.tmps o.dst x, C := H, n := n, pend := [], done := j :: d.done, hist := H :: d.hist, loads := d.loads }
            else none
          | none => none
        else none
      | _, _, _ => match aPure P o (aev d.tmps) with
        | some x => some { d with tmps := aPut d.tmps o.dst x }
        | none => none

def dRun (call : Caller) (ops : Array Oper) (B : List Nat) (n0 : Nat) : List Nat → DS → Option DS
  | [], d => some d
  | j :: rest, d => match dStep P call ops B n0 j d with
    | some d' => dRun call ops B n0 rest d'
    | none => none

def aDrawWith (call : Caller) (ops : Array Oper) (pr : List (List Nat)) (B π : List Nat) (tmps : Env) (H : Heap) (n : Nat) : Option (Env × Heap × Nat) :=
  bif drawOk ops pr B π then
    match dRun P call ops B n π { tmps, C := H, n := n + ops.size, pend := [], done := [], hist := [H], loads := [] } with
    | some d => some (d.tmps, commit d.C d.pend, d.n)
    | none => none
  else none

/-- Two effects of which neither waits for the other. -/
def openPair (ops : Array Oper) (B : List Nat) : Option (Nat × Nat) :=
  ((List.range ops.size).flatMap fun j => (List.range j).map fun i => (i, j)).find? fun p =>
    isE (ops.getD p.1 default).op && isE (ops.getD p.2 default).op && !bit B p.2 p.1

def prAdd (pr : List (List Nat)) (x y : Nat) : List (List Nat) := pr.mapIdx fun j l => bif Nat.beq j y then x :: l else l

def bitsAdd (B : List Nat) (x y : Nat) : List Nat := B.mapIdx fun j b => bif Nat.beq j y || b.testBit y then b ||| 2 ^ x ||| B.getD x 0 else b

def blkEq : Option Blk → Option Blk → Bool
  | some a, some b => Nat.beq a.t b.t && asEq a.cs b.cs
  | none, none => true
  | _, _ => false

def envEq (E F : Env) : Bool := Nat.beq E.N F.N && (List.range E.N).all fun i => aEq (E.get i) (F.get i)

def heapEq (H K : Heap) : Bool := (H.map (·.1) ++ K.map (·.1)).all fun r => blkEq (hget H r) (hget K r)

def aDraw (call : Caller) (ops : Array Oper) (tmps : Env) (H : Heap) (n : Nat) : Option (Env × Heap × Nat) :=
  match openPair ops (befores ops) with
  | none => aDrawWith P call ops (predsOf ops) (befores ops) (lazyOrder ops (befores ops)) tmps H n
  | some (x, y) =>
    match aDrawWith P call ops (prAdd (predsOf ops) x y) (bitsAdd (befores ops) x y) (lazyOrder ops (bitsAdd (befores ops) x y)) tmps H n,
        aDrawWith P call ops (prAdd (predsOf ops) y x) (bitsAdd (befores ops) y x) (lazyOrder ops (bitsAdd (befores ops) y x)) tmps H n with
    | some (t1, H1, n1), some (t2, H2, n2) => bif envEq t1 t2 && heapEq H1 H2 && Nat.beq n1 n2 then some (t1, H1, n1) else none
    | _, _ => none

def aRegion (call : Caller) (ops : Array Oper) (draw : Bool) (tmps : Env) (H : Heap) (n : Nat) : Option (Env × Heap × Nat) :=
  bif draw then aDraw P call ops tmps H n else aOps P call ops ops.toList tmps H n

/-! ### Code and calls -/

structure AS where
  tmps : Env
  H : Heap
  n : Nat

inductive AX where
  | normal
  | exit (id : Nat)
  | ret

/-- What is known of functions (they are not entered), and whose results are told as read-only ones, their own blocks let go. -/
structure Cfg where
  sig : FuncId → Option Caller1
  pure : FuncId → Bool

mutual
def freeze (H : Heap) (n0 : Nat) : Nat → AV → Option AV
  | 0, _ => none
  | f + 1, .slice r off sz len cap =>
    bif Nat.blt r n0 then some (.slice r off sz len cap)
    else match hget H r with
      | some b => bif Nat.ble (off + len * sz) b.cs.length then
          (match freezes H n0 f ((b.cs.drop off).take (len * sz)) with
           | some cs => some (.rslice cs len none)
           | none => none) else none
      | none => none
  | f + 1, .ptr r off => bif Nat.blt r n0 then some (.ptr r off) else none
  | f + 1, .agg cs => (freezes H n0 f cs).map .agg
  | f + 1, .tuple cs => (freezes H n0 f cs).map .tuple
  | f + 1, .iface t x => (freeze H n0 f x).map (.iface t ·)
  | _ + 1, x => some x
def freezes (H : Heap) (n0 : Nat) : Nat → List AV → Option (List AV)
  | 0, _ => none
  | _ + 1, [] => some []
  | f + 1, x :: xs => match freeze H n0 f x, freezes H n0 f xs with
    | some y, some ys => some (y :: ys)
    | _, _ => none
end

def aResult (H : Heap) (tmps : Env) (r : ResultVar) : Option AV :=
  match r with
  | .tmp t => some (tmps.get t)
  | .cell a t => aLoad P t (tmps.get a) H

def aResultsL (H : Heap) (tmps : Env) : List ResultVar → Option (List AV)
  | [] => some []
  | r :: rs => match aResult P H tmps r, aResultsL H tmps rs with
    | some x, some xs => some (x :: xs)
    | _, _ => none

def aResults (H : Heap) (tmps : Env) (rs : List ResultVar) : Option AV :=
  match aResultsL P H tmps rs with
  | some [x] => some x
  | some xs => some (.tuple xs)
  | none => none

mutual
/-- No private block is named in it. -/
def AV.closed : AV → Bool
  | .v _ | .any => true
  | .ptr .. | .slice .. => false
  | .rptr row => AV.closeds row
  | .rslice row _ _ => AV.closeds row
  | .func _ a b => AV.closeds a && AV.closeds b
  | .iface _ x => AV.closed x
  | .agg cs => AV.closeds cs
  | .tuple cs => AV.closeds cs
def AV.closeds : List AV → Bool
  | [] => true
  | x :: xs => AV.closed x && AV.closeds xs
end

mutual
/-- No memory at all is named in it. -/
def AV.flat : AV → Bool
  | .v _ | .any => true
  | .ptr .. | .slice .. | .rptr _ | .func .. => false
  | .rslice row _ _ => row.isEmpty
  | .iface _ x => AV.flat x
  | .agg cs => AV.flats cs
  | .tuple cs => AV.flats cs
def AV.flats : List AV → Bool
  | [] => true
  | x :: xs => AV.flat x && AV.flats xs
end

/-- A function's own text run by ex. -/
def aBody (ex : Code → AS → Option (AX × AS)) (fn : Func) (args : List AV) (H : Heap) (n : Nat) : Option (AV × Heap × Nat) :=
  match fn.body with
  | none => none
  | some c =>
    match ex c ⟨Env.init fn.ntmps args, H, n⟩ with
    | some (.normal, s) | some (.ret, s) => match aResults P s.H s.tmps fn.results.toList with
      | some x => some (x, s.H, s.n)
      | none => none
    | _ => none

/-- What it is handed is lent, told read-only; it starts with no private block; what it hands back is told read-only. -/
def aPureRun (ex : Code → AS → Option (AX × AS)) (fn : Func) (args : List AV) : Option AV :=
  bif AV.closeds args then
    match aBody P ex fn args [] 0 with
    | some (x, H', _) => match freeze H' 0 1000 x with
      | some y => bif AV.closed y then some y else none
      | none => none
    | none => none
  else none

def aPureBody (ex : Code → AS → Option (AX × AS)) (fn : Func) (args : List AV) (H : Heap) (n : Nat) : Option (AV × Heap × Nat) :=
  bif AV.closeds args then (aPureRun P ex fn args).map (·, H, n)
  else match freezes H 0 1000 args with
    | none => none
    | some args' => match aPureRun P ex fn args' with
      | some y => bif AV.flat y then some (y, H, n) else none
      | none => none

def aCallOf (cfg : Cfg) (ex : Code → AS → Option (AX × AS)) : Caller := fun f args H n =>
  match cfg.sig f with
  | some F => F args H n
  | none => match P.funcs[f]? with
    | some fn => bif cfg.pure f then aPureBody P ex fn args H n else aBody P ex fn args H n
    | none => none

def aExec (cfg : Cfg) : Nat → Code → AS → Option (AX × AS)
  | 0, _, _ => none
  | k + 1, c, s =>
    match c with
    | .skip => some (.normal, s)
    | .region _ ops draw => match aRegion P (aCallOf P cfg (aExec cfg k)) ops draw s.tmps s.H s.n with
      | some (tmps, H, n) => some (.normal, ⟨tmps, H, n⟩)
      | none => none
    | .seq a b => match aExec cfg k a s with
      | some (.normal, s') => aExec cfg k b s'
      | r => r
    | .cond c x y => match aev s.tmps c with
      | .v (.bool t) => aExec cfg k (bif t then x else y) s
      | _ => none
    | .block id body => match aExec cfg k body s with
      | some (.exit i, s') => bif Nat.beq i id then some (.normal, s') else some (.exit i, s')
      | r => r
    | .loop body => match aExec cfg k body s with
      | some (.normal, s') => aExec cfg k (.loop body) s'
      | r => r
    | .exit id => some (.exit id, s)
    | .ret => some (.ret, s)
    | _ => none

def aCall (cfg : Cfg) (fuel : Nat) : Caller := aCallOf P cfg (aExec P cfg fuel)

end
end Go.Va
