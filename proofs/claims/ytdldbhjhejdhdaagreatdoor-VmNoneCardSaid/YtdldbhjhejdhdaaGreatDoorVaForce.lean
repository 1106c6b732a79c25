/- The abstract evaluator, for the kernel: every value is reckoned before it is handed on; whole numbers by a short way. The same function. -/
import Derived.Test.YtdldbhjhejdhdaaGreatDoorVaExec
set_option linter.unusedVariables false
set_option linter.unusedSimpArgs false
namespace Go.Va

def forceNat {α : Type} (n : Nat) (k : Nat → α) : α :=
  match n with
  | 0 => k 0
  | Nat.succ m => k (Nat.succ m)

@[simp] theorem forceNat_eq {α : Type} (n : Nat) (k : Nat → α) : forceNat n k = k n := by cases n <;> rfl

def forceInt {α : Type} (n : Int) (k : Int → α) : α :=
  match n with
  | .ofNat m => forceNat m fun m => k (.ofNat m)
  | .negSucc m => forceNat m fun m => k (.negSucc m)

@[simp] theorem forceInt_eq {α : Type} (n : Int) (k : Int → α) : forceInt n k = k n := by cases n <;> simp [forceInt]

def forceBytes {α : Type} : List UInt8 → (List UInt8 → α) → α
  | [], k => k []
  | b :: bs, k => forceNat b.toNat fun m => forceBytes bs fun bs => k (UInt8.ofNat m :: bs)

@[simp] theorem forceBytes_eq {α : Type} : ∀ (l : List UInt8) (k : List UInt8 → α), forceBytes l k = k l
  | [], k => rfl
  | b :: bs, k => by simp [forceBytes, forceBytes_eq bs]

def forceVal {α : Type} (x : Value) (k : Value → α) : α :=
  match x with
  | .bool true => k (.bool true)
  | .bool false => k (.bool false)
  | .int kd n => forceInt n fun n => k (.int kd n)
  | .string s => forceBytes s.data.toList fun l => k (.string ⟨⟨l⟩⟩)
  | y => k y

@[simp] theorem forceVal_eq {α : Type} (x : Value) (k : Value → α) : forceVal x k = k x := by
  cases x <;> simp [forceVal]
  case bool b => cases b <;> rfl

def forceCap {α : Type} (c : Option Nat) (k : Option Nat → α) : α :=
  match c with
  | none => k none
  | some m => forceNat m fun m => k (some m)

@[simp] theorem forceCap_eq {α : Type} (c : Option Nat) (k : Option Nat → α) : forceCap c k = k c := by cases c <;> simp [forceCap]

/-- The head and its numbers; lists stay. -/
def force1 {α : Type} (x : AV) (k : AV → α) : α :=
  match x with
  | .v x => forceVal x fun x => k (.v x)
  | .any => k .any
  | .ptr r off => forceNat r fun r => forceNat off fun off => k (.ptr r off)
  | .rptr row => k (.rptr row)
  | .slice r off sz len cap => forceNat r fun r => forceNat off fun off => forceNat sz fun sz => forceNat len fun len => forceCap cap fun cap => k (.slice r off sz len cap)
  | .rslice row len cap => forceNat len fun len => forceCap cap fun cap => k (.rslice row len cap)
  | .func f a b => k (.func f a b)
  | .iface t x => k (.iface t x)
  | .agg cs => k (.agg cs)
  | .tuple cs => k (.tuple cs)

@[simp] theorem force1_eq {α : Type} (x : AV) (k : AV → α) : force1 x k = k x := by cases x <;> simp [force1]

def forceL {α : Type} : List AV → (List AV → α) → α
  | [], k => k []
  | x :: xs, k => force1 x fun x => forceL xs fun xs => k (x :: xs)

@[simp] theorem forceL_eq {α : Type} : ∀ (l : List AV) (k : List AV → α), forceL l k = k l
  | [], k => rfl
  | x :: xs, k => by simp [forceL, forceL_eq xs]

/-- The spine of a list. -/
def forceS {α β : Type} : List β → (List β → α) → α
  | [], k => k []
  | x :: xs, k => forceS xs fun xs => k (x :: xs)

@[simp] theorem forceS_eq {α β : Type} : ∀ (l : List β) (k : List β → α), forceS l k = k l
  | [], k => rfl
  | x :: xs, k => by simp [forceS, forceS_eq xs]

/-- Head and lists, each element's head. -/
def force2 {α : Type} (x : AV) (k : AV → α) : α :=
  match x with
  | .rptr row => forceL row fun row => k (.rptr row)
  | .rslice row len cap => forceL row fun row => forceNat len fun len => forceCap cap fun cap => k (.rslice row len cap)
  | .func f a b => forceL a fun a => forceL b fun b => k (.func f a b)
  | .iface t x => force1 x fun x => k (.iface t x)
  | .agg cs => forceL cs fun cs => k (.agg cs)
  | .tuple cs => forceL cs fun cs => k (.tuple cs)
  | y => force1 y k

@[simp] theorem force2_eq {α : Type} (x : AV) (k : AV → α) : force2 x k = k x := by cases x <;> simp [force2]

def forceBlk {α : Type} (b : Blk) (k : Blk → α) : α :=
  match b with
  | ⟨t, cs⟩ => forceNat t fun t => forceL cs fun cs => k ⟨t, cs⟩

@[simp] theorem forceBlk_eq {α : Type} (b : Blk) (k : Blk → α) : forceBlk b k = k b := by cases b; simp [forceBlk]

def forceHead {α : Type} (H : Heap) (k : Heap → α) : α :=
  match H with
  | [] => k []
  | (r, b) :: H => forceNat r fun r => forceBlk b fun b => forceS H fun H => k ((r, b) :: H)

@[simp] theorem forceHead_eq {α : Type} (H : Heap) (k : Heap → α) : forceHead H k = k H := by
  cases H with
  | nil => rfl
  | cons e H => cases e; simp [forceHead]

def T.setK {α : Type} : T → Nat → AV → (T → α) → α
  | .e, _, _, k => k .e
  | .n x l r, i, v, k => bif Nat.beq i 0 then k (.n v l r) else bif Nat.beq (Nat.mod i 2) 1 then T.setK l (Nat.div i 2) v (fun l => k (.n x l r)) else T.setK r (Nat.sub (Nat.div i 2) 1) v (fun r => k (.n x l r))

@[simp] theorem T.setK_eq {α : Type} : ∀ (t : T) (i : Nat) (v : AV) (k : T → α), T.setK t i v k = k (T.set t i v)
  | .e, i, v, k => rfl
  | .n x l r, i, v, k => by
    simp only [T.setK, T.set, T.setK_eq l, T.setK_eq r]
    cases Nat.beq i 0 <;> cases Nat.beq (Nat.mod i 2) 1 <;> rfl

def putK {α : Type} (tmps : Env) (dst : Option Tmp) (x : AV) (k : Env → α) : α :=
  match tmps, dst with
  | ⟨N, t⟩, some d => bif Nat.blt d N then T.setK t d x fun t => k ⟨N, t⟩ else k ⟨N, t⟩
  | E, none => k E

@[simp] theorem putK_eq {α : Type} (tmps : Env) (dst : Option Tmp) (x : AV) (k : Env → α) : putK tmps dst x k = k (aPut tmps dst x) := by
  cases dst with
  | none => rfl
  | some d =>
    cases tmps with
    | mk N t =>
      simp only [putK, aPut, T.setK_eq]
      cases Nat.blt d N <;> rfl

def T.setsK {α : Type} (t : T) (i : Nat) (l : List AV) (k : T → α) : α :=
  match l with
  | [] => k t
  | x :: xs => T.setK t i x fun t => T.setsK t (Nat.succ i) xs k

@[simp] theorem T.setsK_eq {α : Type} : ∀ (l : List AV) (t : T) (i : Nat) (k : T → α), T.setsK t i l k = k (T.sets t i l)
  | [], t, i, k => rfl
  | x :: xs, t, i, k => by simp [T.setsK, T.sets, T.setsK_eq xs]

def T.fillK {α : Type} (x : AV) : Nat → (T → α) → α
  | 0, k => k .e
  | d + 1, k => T.fillK x d fun t => k (.n x t t)

@[simp] theorem T.fillK_eq {α : Type} (x : AV) : ∀ (d : Nat) (k : T → α), T.fillK x d k = k (T.fill x d)
  | 0, k => rfl
  | d + 1, k => by simp [T.fillK, T.fill, T.fillK_eq x d]

def initK {α : Type} (ntmps : Nat) (args : List AV) (k : Env → α) : α :=
  forceNat (args.length + (ntmps - args.length)) fun N => T.fillK undefA (Nat.log2 N + 2) fun t => T.setsK t 0 args fun t => k ⟨N, t⟩

@[simp] theorem initK_eq {α : Type} (ntmps : Nat) (args : List AV) (k : Env → α) : initK ntmps args k = k (Env.init ntmps args) := by simp [initK, Env.init]

section
variable (P : Program)

/-! ### A short way for whole numbers and truths -/

def inI64 (n : Int) : Bool := decide (-9223372036854775808 ≤ n) && decide (n < 9223372036854775808)

def quick (op : Op) (ev : Operand → AV) : Option AV :=
  match op with
  | .binOp b t x y _ =>
    match ev x, ev y with
    | .v (.int .i64 m), .v (.int .i64 n) =>
      match b with
      | .eql => some (.v (.bool (m == n)))
      | .neq => some (.v (.bool (m != n)))
      | .lss => some (.v (.bool (decide (m < n))))
      | .leq => some (.v (.bool (decide (m ≤ n))))
      | .gtr => some (.v (.bool (decide (m > n))))
      | .geq => some (.v (.bool (decide (m ≥ n))))
      | .add => bif inI64 (m + n) then some (.v (.int .i64 (m + n))) else none
      | .sub => bif inI64 (m - n) then some (.v (.int .i64 (m - n))) else none
      | _ => none
    | _, _ => none
  | .unOp .not _ x =>
    match ev x with
    | .v (.bool b) => some (.v (.bool (!b)))
    | _ => none
  | _ => none

theorem wrap_in {n : Int} (h : inI64 n = true) : IntKind.i64.wrap n = n := by
  unfold inI64 at h
  rw [Bool.and_eq_true] at h
  have h1 : -9223372036854775808 ≤ n := of_decide_eq_true h.1
  have h2 : n < 9223372036854775808 := of_decide_eq_true h.2
  simp only [IntKind.wrap, IntKind.bits, IntKind.signed, Bool.true_and, decide_eq_true_eq]
  simp only [Nat.reduceSub, Int.reducePow]
  split
  all_goals (rename_i h; simp at h; omega)

theorem quick_eq {o : Oper} {ev : Operand → AV} {x : AV} (h : quick o.op ev = some x) (call : Caller) (H : Heap) (n : Nat) : aOp P call o ev H n = some (x, H, n) := by
  obtain ⟨dst, op, type, pos, after, guard⟩ := o
  unfold quick at h
  simp only at h
  split at h
  · rename_i b t y z yt
    split at h
    · rename_i m k hy hz
      have hgen : ∀ u, pureRun P (execOp (valOf ev) { dst := dst, op := .binOp b t y z yt, type := type, pos := pos, after := after, guard := guard }) = some (.value u) →
          aGeneric P { dst := dst, op := .binOp b t y z yt, type := type, pos := pos, after := after, guard := guard } ev = some (AV.norm (.v u)) := fun u hu => by
        unfold aGeneric
        have hall : (Op.binOp b t y z yt).operands.all (fun x => ((ev x).val?).isSome) = true := by
          simp [Op.operands, hy, hz, AV.val?]
        simp only [hall, notSelect, Bool.and_self, cond_true, hu]
      have hnil : aNilCmp P t (ev y) (ev z) = none := by simp [aNilCmp, aNilEq, hy, hz]
      have hvy : valOf ev y = .int .i64 m := by simp [valOf, hy, AV.val?]
      have hvz : valOf ev z = .int .i64 k := by simp [valOf, hz, AV.val?]
      have hop : ∀ u, aPure P { dst := dst, op := .binOp b t y z yt, type := type, pos := pos, after := after, guard := guard } ev = some u →
          aOp P call { dst := dst, op := .binOp b t y z yt, type := type, pos := pos, after := after, guard := guard } ev H n = some (u, H, n) := fun u hu => by
        unfold aOp
        simp only [isL, isA, isE, hu, Option.map_some]
      have hrun : ∀ u, (eqGuard b t y z (.int .i64 m) (.int .i64 k) >>= fun _ => binOp b t (.int .i64 m) (.int .i64 k)) = Sem.pure u →
          pureRun P (execOp (valOf ev) { dst := dst, op := .binOp b t y z yt, type := type, pos := pos, after := after, guard := guard }) = some (.value u) := fun u hu => by
        simp only [execOp, hvy, hvz, hu]
        rfl
      cases b <;> simp only [Option.some.injEq] at h
      case add =>
        cases hi : inI64 (m + k) with
        | false => simp [hi] at h
        | true =>
          simp only [hi, cond_true, Option.some.injEq] at h
          subst h
          refine hop _ ?_
          unfold aPure
          exact hgen _ (hrun _ (by simp only [eqGuard, binOp, Op.intArith, wrap_in hi]; rfl))
      case sub =>
        cases hi : inI64 (m - k) with
        | false => simp [hi] at h
        | true =>
          simp only [hi, cond_true, Option.some.injEq] at h
          subst h
          refine hop _ ?_
          unfold aPure
          exact hgen _ (hrun _ (by simp only [eqGuard, binOp, Op.intArith, wrap_in hi]; rfl))
      case eql =>
        subst h
        refine hop _ ?_
        unfold aPure
        simp only [hnil]
        exact hgen _ (hrun _ (by rfl))
      case neq =>
        subst h
        refine hop _ ?_
        unfold aPure
        simp only [hnil]
        exact hgen _ (hrun _ (by rfl))
      case lss => subst h; refine hop _ ?_; unfold aPure; exact hgen _ (hrun _ (by rfl))
      case leq => subst h; refine hop _ ?_; unfold aPure; exact hgen _ (hrun _ (by rfl))
      case gtr => subst h; refine hop _ ?_; unfold aPure; exact hgen _ (hrun _ (by rfl))
      case geq => subst h; refine hop _ ?_; unfold aPure; exact hgen _ (hrun _ (by rfl))
      all_goals cases h
    · cases h
  · rename_i t y
    split at h
    · rename_i b hy
      simp only [Option.some.injEq] at h
      subst h
      unfold aOp
      simp only [isL, isA, isE]
      unfold aPure aGeneric
      have hvy : valOf ev y = .bool b := by simp [valOf, hy, AV.val?]
      have hall : (Op.unOp .not t y).operands.all (fun x => ((ev x).val?).isSome) = true := by simp [Op.operands, hy, AV.val?]
      simp only [hall, notSelect, Bool.and_self, cond_true, execOp, hvy]
      rfl
    · cases h
  · cases h

def qOp (call : Caller) (o : Oper) (ev : Operand → AV) (H : Heap) (n : Nat) : Option (AV × Heap × Nat) :=
  match quick o.op ev with
  | some x => some (x, H, n)
  | none => aOp P call o ev H n

theorem qOp_eq {call : Caller} {o : Oper} {ev : Operand → AV} {H : Heap} {n : Nat} : qOp P call o ev H n = aOp P call o ev H n := by
  unfold qOp
  split
  · rename_i x h; exact (quick_eq P h call H n).symm
  · rfl

/-- An operation's answer, reckoned. -/
def fOut {α : Type} (r : Option (AV × Heap × Nat)) (k : AV → Heap → Nat → Option α) : Option α :=
  match r with
  | some (x, H, n) => force2 x fun x => forceHead H fun H => forceNat n fun n => k x H n
  | none => none

theorem fOut_eq {α : Type} (r : Option (AV × Heap × Nat)) (k : AV → Heap → Nat → Option α) : fOut r k = match r with | some (x, H, n) => k x H n | none => none := by
  cases r with
  | none => rfl
  | some y => obtain ⟨x, H, n⟩ := y; simp [fOut]

def fOps (call : Caller) (ops : Array Oper) : List Oper → Env → Heap → Nat → Option (Env × Heap × Nat)
  | [], tmps, H, n => some (tmps, H, n)
  | o :: rest, tmps, H, n =>
    match aWanted ops o tmps with
    | some true => match isE o.op || isA o.op with
      | true => fOut (aOp P call o (aev tmps) H n) fun x H' n' => putK tmps o.dst x fun tmps => fOps call ops rest tmps H' n'
      | false => match qOp P call o (aev tmps) H n with
        | some (x, H', n') => force2 x fun x => putK tmps o.dst x fun tmps => fOps call ops rest tmps H' n'
        | none => none
    | some false => putK tmps o.dst undefA fun tmps => fOps call ops rest tmps H n
    | none => none

theorem fOps_eq {call : Caller} {ops : Array Oper} : ∀ (l : List Oper) (tmps : Env) (H : Heap) (n : Nat), fOps P call ops l tmps H n = aOps P call ops l tmps H n
  | [], tmps, H, n => rfl
  | o :: rest, tmps, H, n => by
    simp only [fOps, aOps, putK_eq, fOut_eq, fOps_eq rest, qOp_eq, force2_eq]
    cases isE o.op || isA o.op <;> rfl

def forceDS {α : Type} (d : DS) (k : DS → α) : α := forceHead d.C fun C => forceNat d.n fun n => k { d with C, n }

@[simp] theorem forceDS_eq {α : Type} (d : DS) (k : DS → α) : forceDS d k = k d := by simp [forceDS]

def fStep (call : Caller) (ops : Array Oper) (B : List Nat) (n0 : Nat) (j : Nat) (d : DS) (K : DS → Option DS) : Option DS :=
  match ops[j]? with
  | none => none
  | some o =>
    match aWanted ops o d.tmps with
    | none => none
    | some false => putK d.tmps o.dst undefA fun tmps => K { d with tmps }
    | some true =>
      match isL o.op, isA o.op, isE o.op with
      | true, _, _ => match o.op with
        | .load t a => match aLoad P t (aev d.tmps a) d.C with
          | some v => force2 v fun v => bif loadBack P B j t (aev d.tmps a) v d.done d.hist then putK d.tmps o.dst v fun tmps => K { d with tmps, loads := (j, t, aev d.tmps a, v) :: d.loads } else none
          | none => none
        | _ => none
      | _, true, _ => match aAlloc P o.op (aev d.tmps) (n0 + j) with
        | some (b, x) => forceBlk b fun b => force2 x fun x => forceNat (n0 + j) fun r => putK d.tmps o.dst x fun tmps => K { d with tmps, pend := (j, r, b) :: d.pend }
        | none => none
      | _, _, true =>
        bif d.pend.all (fun p => bit B j p.1) then
          forceHead (commit d.C d.pend) fun C =>
          match aEff P call o.op (aev d.tmps) C d.n with
          | some (x, H, n) => force2 x fun x => forceHead H fun H => forceNat n fun n =>
            bif d.loads.all (fun l => bit B j l.1 || loadIs P l.2.1 l.2.2.1 l.2.2.2 H) then
              putK d.tmps o.dst x fun tmps => K { tmps, C := H, n := n, pend := [], done := j :: d.done, hist := H :: d.hist, loads := d.loads }
            else none
          | none => none
        else none
      | _, _, _ => match qOp P call o (aev d.tmps) d.C d.n with
        | some (x, _, _) => force2 x fun x => putK d.tmps o.dst x fun tmps => K { d with tmps }
        | none => none

theorem fStep_eq {call : Caller} {ops : Array Oper} {B : List Nat} {n0 j : Nat} {d : DS} {K : DS → Option DS} : fStep P call ops B n0 j d K = match dStep P call ops B n0 j d with | some d' => K d' | none => none := by
  unfold fStep dStep
  simp only [putK_eq, force2_eq, forceBlk_eq, forceNat_eq, forceHead_eq, qOp_eq]
  cases h0 : ops[j]? with
  | none => rfl
  | some o =>
    simp only
    cases h1 : aWanted ops o d.tmps with
    | none => rfl
    | some b =>
      cases b with
      | false => rfl
      | true =>
        simp only
        cases hL : isL o.op with
        | true =>
          simp only
          cases ho : o.op <;> try rfl
          rename_i t a
          simp only
          cases aLoad P t (aev d.tmps a) d.C with
          | none => rfl
          | some v => simp only; cases loadBack P B j t (aev d.tmps a) v d.done d.hist <;> rfl
        | false =>
          cases hA : isA o.op with
          | true =>
            simp only
            cases aAlloc P o.op (aev d.tmps) (n0 + j) with
            | none => rfl
            | some bx => rfl
          | false =>
            cases hE : isE o.op with
            | true =>
              simp only
              cases d.pend.all (fun p => bit B j p.1) with
              | false => rfl
              | true =>
                simp only [cond_true]
                cases aEff P call o.op (aev d.tmps) (commit d.C d.pend) d.n with
                | none => rfl
                | some y =>
                  obtain ⟨x, H, n⟩ := y
                  simp only
                  cases d.loads.all (fun l => bit B j l.1 || loadIs P l.2.1 l.2.2.1 l.2.2.2 H) <;> rfl
            | false =>
              simp only
              have : aOp P call o (aev d.tmps) d.C d.n = (aPure P o (aev d.tmps)).map (·, d.C, d.n) := by
                unfold aOp
                simp only [hL, hA, hE]
              rw [this]
              cases aPure P o (aev d.tmps) <;> rfl

def fRun (call : Caller) (ops : Array Oper) (B : List Nat) (n0 : Nat) : List Nat → DS → Option DS
  | [], d => some d
  | j :: rest, d => fStep P call ops B n0 j d (fRun call ops B n0 rest)

theorem fRun_eq {call : Caller} {ops : Array Oper} {B : List Nat} {n0 : Nat} : ∀ (l : List Nat) (d : DS), fRun P call ops B n0 l d = dRun P call ops B n0 l d
  | [], d => rfl
  | j :: rest, d => by
    simp only [fRun, dRun, fStep_eq, fRun_eq rest]
    rfl

def fDrawWith (call : Caller) (ops : Array Oper) (pr : List (List Nat)) (B π : List Nat) (tmps : Env) (H : Heap) (n : Nat) : Option (Env × Heap × Nat) :=
  bif drawOk ops pr B π then
    forceNat (n + ops.size) fun n1 => match fRun P call ops B n π { tmps, C := H, n := n1, pend := [], done := [], hist := [H], loads := [] } with
    | some d => some (d.tmps, commit d.C d.pend, d.n)
    | none => none
  else none

def fDraw (call : Caller) (ops : Array Oper) (tmps : Env) (H : Heap) (n : Nat) : Option (Env × Heap × Nat) :=
  match openPair ops (befores ops) with
  | none => fDrawWith P call ops (predsOf ops) (befores ops) (lazyOrder ops (befores ops)) tmps H n
  | some (x, y) =>
    match fDrawWith P call ops (prAdd (predsOf ops) x y) (bitsAdd (befores ops) x y) (lazyOrder ops (bitsAdd (befores ops) x y)) tmps H n,
        fDrawWith P call ops (prAdd (predsOf ops) y x) (bitsAdd (befores ops) y x) (lazyOrder ops (bitsAdd (befores ops) y x)) tmps H n with
    | some (t1, H1, n1), some (t2, H2, n2) => bif envEq t1 t2 && heapEq H1 H2 && Nat.beq n1 n2 then some (t1, H1, n1) else none
    | _, _ => none

theorem fDraw_eq {call : Caller} {ops : Array Oper} {tmps : Env} {H : Heap} {n : Nat} : fDraw P call ops tmps H n = aDraw P call ops tmps H n := by
  have h : ∀ pr B π, fDrawWith P call ops pr B π tmps H n = aDrawWith P call ops pr B π tmps H n := fun pr B π => by
    simp only [fDrawWith, aDrawWith, fRun_eq, forceNat_eq]
    rfl
  unfold fDraw aDraw
  simp only [h]
  rfl

def fRegion (call : Caller) (ops : Array Oper) (draw : Bool) (tmps : Env) (H : Heap) (n : Nat) : Option (Env × Heap × Nat) :=
  bif draw then fDraw P call ops tmps H n else fOps P call ops ops.toList tmps H n

def forceRes {α : Type} (r : Env × Heap × Nat) (k : AS → α) : α :=
  match r with
  | (tmps, H, n) => forceHead H fun H => forceNat n fun n => k ⟨tmps, H, n⟩

@[simp] theorem forceRes_eq {α : Type} (r : Env × Heap × Nat) (k : AS → α) : forceRes r k = k ⟨r.1, r.2.1, r.2.2⟩ := by obtain ⟨a, b, c⟩ := r; simp [forceRes]

def fBody (ex : Code → AS → Option (AX × AS)) (fn : Func) (args : List AV) (H : Heap) (n : Nat) : Option (AV × Heap × Nat) :=
  match fn.body with
  | none => none
  | some c =>
    initK fn.ntmps args fun tmps =>
    match ex c ⟨tmps, H, n⟩ with
    | some (.normal, s) | some (.ret, s) => match aResults P s.H s.tmps fn.results.toList with
      | some x => force2 x fun x => some (x, s.H, s.n)
      | none => none
    | _ => none

theorem fBody_eq {ex : Code → AS → Option (AX × AS)} {fn : Func} {args : List AV} {H : Heap} {n : Nat} : fBody P ex fn args H n = aBody P ex fn args H n := by
  unfold fBody aBody
  simp only [initK_eq, force2_eq]
  rfl

def fPureRun (ex : Code → AS → Option (AX × AS)) (fn : Func) (args : List AV) : Option AV :=
  bif AV.closeds args then
    match fBody P ex fn args [] 0 with
    | some (x, H', _) => match freeze H' 0 1000 x with
      | some y => force2 y fun y => bif AV.closed y then some y else none
      | none => none
    | none => none
  else none

theorem fPureRun_eq {ex : Code → AS → Option (AX × AS)} {fn : Func} {args : List AV} : fPureRun P ex fn args = aPureRun P ex fn args := by
  unfold fPureRun aPureRun
  simp only [fBody_eq, force2_eq]
  rfl

def fPureBody (ex : Code → AS → Option (AX × AS)) (fn : Func) (args : List AV) (H : Heap) (n : Nat) : Option (AV × Heap × Nat) :=
  bif AV.closeds args then (fPureRun P ex fn args).map (·, H, n)
  else match freezes H 0 1000 args with
    | none => none
    | some args' => forceL args' fun args' => match fPureRun P ex fn args' with
      | some y => bif AV.flat y then some (y, H, n) else none
      | none => none

theorem fPureBody_eq {ex : Code → AS → Option (AX × AS)} {fn : Func} {args : List AV} {H : Heap} {n : Nat} : fPureBody P ex fn args H n = aPureBody P ex fn args H n := by
  unfold fPureBody aPureBody
  simp only [fPureRun_eq, forceL_eq]
  rfl

def fCallOf (cfg : Cfg) (ex : Code → AS → Option (AX × AS)) : Caller := fun f args H n =>
  match cfg.sig f with
  | some F => F args H n
  | none => match P.funcs[f]? with
    | some fn => forceL args fun args => bif cfg.pure f then fPureBody P ex fn args H n else fBody P ex fn args H n
    | none => none

def fExec (cfg : Cfg) : Nat → Code → AS → Option (AX × AS)
  | 0, _, _ => none
  | k + 1, c, s =>
    match c with
    | .skip => some (.normal, s)
    | .region _ ops draw => match fRegion P (fCallOf P cfg (fExec cfg k)) ops draw s.tmps s.H s.n with
      | some r => forceRes r fun s => some (.normal, s)
      | none => none
    | .seq a b => match fExec cfg k a s with
      | some (.normal, s') => fExec cfg k b s'
      | r => r
    | .cond c x y => match aev s.tmps c with
      | .v (.bool t) => fExec cfg k (bif t then x else y) s
      | _ => none
    | .block id body => match fExec cfg k body s with
      | some (.exit i, s') => bif Nat.beq i id then some (.normal, s') else some (.exit i, s')
      | r => r
    | .loop body => match fExec cfg k body s with
      | some (.normal, s') => fExec cfg k (.loop body) s'
      | r => r
    | .exit id => some (.exit id, s)
    | .ret => some (.ret, s)
    | _ => none

def fCall (cfg : Cfg) (fuel : Nat) : Caller := fCallOf P cfg (fExec P cfg fuel)

theorem fCallOf_eq {cfg : Cfg} {ex : Code → AS → Option (AX × AS)} : fCallOf P cfg ex = aCallOf P cfg ex := by
  funext f args H n
  simp only [fCallOf, aCallOf, fBody_eq, fPureBody_eq, forceL_eq]
  rfl

theorem fExec_eq {cfg : Cfg} : ∀ (k : Nat), fExec P cfg k = aExec P cfg k
  | 0 => rfl
  | k + 1 => by
    have ih := fExec_eq (cfg := cfg) k
    have hr : ∀ call ops draw tmps H n, fRegion P call ops draw tmps H n = aRegion P call ops draw tmps H n := fun call ops draw tmps H n => by
      simp only [fRegion, aRegion, fDraw_eq, fOps_eq]
    funext c s
    cases c <;> simp only [fExec, aExec, hr, forceRes_eq, ih, fCallOf_eq] <;> try rfl
    rename_i id ops draw
    cases aRegion P (aCallOf P cfg (aExec P cfg k)) ops draw s.tmps s.H s.n with
    | none => rfl
    | some r => obtain ⟨a, b, c⟩ := r; rfl

theorem fCall_eq {cfg : Cfg} {k : Nat} : fCall P cfg k = aCall P cfg k := by
  unfold fCall aCall
  rw [fExec_eq, fCallOf_eq]

end
end Go.Va
