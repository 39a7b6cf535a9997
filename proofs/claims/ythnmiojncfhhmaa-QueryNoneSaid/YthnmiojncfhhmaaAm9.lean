/- The abstract machine: code, calls, regions in any order. No condition. -/
import Derived.Test.YthnmiojncfhhmaaAm8
set_option linter.unusedVariables false
set_option linter.unusedSimpArgs false
set_option linter.unusedSectionVars false
namespace Go.Am
inductive Ex where
  | normal | ret | exit (id : Nat)
  deriving DecidableEq
def wantedA (ops : Array Oper) (T : Nat → Value) (o : Oper) : Bool :=
  match o.guard with
  | none => true
  | some (j, want) => match (ops[j]?).bind (·.dst) with
    | some d => match T d with
      | .bool b => b == want
      | _ => false
    | none => false
def putT (T : Nat → Value) (dst : Option Tmp) (v : Value) : Nat → Value :=
  match dst with
  | some d => upd T d v
  | none => T
/-- What a call asks: the function and its arguments. -/
def callee? (T : Nat → Value) (o : Oper) : Option (FuncId × List Value) :=
  match o.op with
  | .call { callee := .value f, args, .. } => match ev T f with
    | .func (.func g) ⟨first⟩ ⟨cap⟩ => some (g, first ++ args.toList.map (ev T) ++ cap)
    | _ => none
  | _ => none
def isCall (o : Oper) : Bool :=
  match o.op with
  | .call { callee := .value _, .. } => true
  | _ => false
inductive Foot where
  | names (l : Log) | pure | loud
structure Step where
  i : Nat
  v : Value
  foot : Foot
  n : Nat
  n' : Nat
abbrev CallF := FuncId → List Value → St → Option (Value × St)
def stepOp (call : CallF) (P : Program) (ops : Array Oper) (o : Oper) (T : Nat → Value) (s : St) : Option (Value × St) :=
  if wantedA ops T o = true then
    if isCall o = true then (callee? T o).bind fun c => call c.1 c.2 s
    else ((opA P T o).run s).map fun r => (r.1, r.2.1)
  else some (undef, s)
def runOps (call : CallF) (P : Program) (ops : Array Oper) : List Oper → (Nat → Value) → St → Option ((Nat → Value) × St)
  | [], T, s => some (T, s)
  | o :: os, T, s => (stepOp call P ops o T s).bind fun r => runOps call P ops os (putT T o.dst r.1) r.2
/-! A region in any order: the operations are run in the order of the text, and what each touches is looked at. -/
def memOp (o : Oper) : Bool :=
  match o.op with
  | .load .. | .store .. | .alloc .. | .box .. | .buildSlice .. | .makeSlice .. | .makeMap .. | .lookup .. | .mapUpdate .. | .insert .. => true
  | .call { callee := .builtin .append, .. } | .call { callee := .builtin .copy, .. } | .call { callee := .builtin .clear, .. } | .call { callee := .value _, .. } => true
  | _ => false
/-- Does operation k stand apart from no other operation on memory? -/
def alone (ops : List Oper) (B : Array Nat) (k : Nat) : Bool :=
  ops.zipIdx.all fun (o, j) => j == k || !memOp o || (B.getD (max j k) 0).testBit (min j k)
def hid (B : Array Nat) (k : Nat) (h : List Step) : List (Nat × Nat) :=
  (h.filter fun st => !(B.getD k 0).testBit st.i && decide (st.n < st.n')).map fun st => (st.n, st.n')
def hide (r : List (Nat × Nat)) (s : St) : St :=
  { get := fun b => if r.any (fun q => decide (q.1 ≤ b) && decide (b < q.2)) = true then none else s.get b, next := s.next, lo := s.next }
def merge (s s1 : St) : St := { get := fun b => if s.next ≤ b ∧ b < s1.next then s1.get b else s.get b, next := s1.next, lo := s.lo }
/-- A call run on what it may see, all that it finds being kept from its writes. -/
def pureCall {α : Type} (f : St → Option (α × St)) (r : List (Nat × Nat)) (s : St) : Option (α × St) := (f (hide r s)).map fun q => (q.1, merge s q.2)
def drawVal (call : CallF) (P : Program) (ops : Array Oper) (B : Array Nat) (h : List Step) (k : Nat) (o : Oper) (T : Nat → Value) (s : St) : Option ((Value × Foot) × St) :=
  if wantedA ops T o = true then
    if isCall o = true then
      if alone ops.toList B k = true then (callee? T o).bind fun c => (call c.1 c.2 s).map fun r => ((r.1, .loud), r.2)
      else (callee? T o).bind fun c => (pureCall (call c.1 c.2) (hid B k h) s).map fun r => ((r.1, .pure), r.2)
    else ((opA P T o).run s).map fun r => ((r.1, .names r.2.2), r.2.1)
  else some ((undef, .names []), s)
def drawStep (call : CallF) (P : Program) (ops : Array Oper) (B : Array Nat) (h : List Step) (k : Nat) (o : Oper) (T : Nat → Value) (s : St) : Option (Step × St) :=
  (drawVal call P ops B h k o T s).map fun r => (⟨k, r.1.1, r.1.2, s.next, r.2.next⟩, r.2)
def drawRun (call : CallF) (P : Program) (ops : Array Oper) (B : Array Nat) : List Oper → Nat → List Step → (Nat → Value) → St → Option ((List Step × (Nat → Value)) × St)
  | [], _, h, T, s => some ((h, T), s)
  | o :: os, k, h, T, s => (drawStep call P ops B h k o T s).bind fun r => drawRun call P ops B os (k + 1) (r.1 :: h) (putT T o.dst r.1.v) r.2
def apartL (a b : Log) : Bool := a.all fun x => b.all fun y => x.1 != y.1 || (x.2 == .read && y.2 == .read)
def outside (l : Log) (n n' : Nat) : Bool := l.all fun x => x.2 != .write && (x.2 == .new || decide (x.1 < n) || decide (n' ≤ x.1))
def compat (a b : Step) : Bool :=
  match a.foot, b.foot with
  | .names l, .names m => apartL l m
  | .pure, .pure => true
  | .pure, .names l => outside l a.n a.n'
  | .names l, .pure => outside l b.n b.n'
  | .loud, .names l | .names l, .loud => l.isEmpty
  | _, _ => false
def allCompat (B : Array Nat) : List Step → Bool
  | [] => true
  | st :: h => (h.all fun x => (B.getD st.i 0).testBit x.i || compat x st) && allCompat B h
def drawOps (call : CallF) (P : Program) (ops : Array Oper) (T : Nat → Value) (s : St) : Option ((Nat → Value) × St) :=
  let B := Region.before ops
  (drawRun call P ops B ops.toList 0 [] T s).bind fun r => if allCompat B r.1.1 = true then some (r.1.2, r.2) else none
def resList (P : Program) (T : Nat → Value) : List ResultVar → M (List Value)
  | [] => .ret []
  | .tmp t :: rs => (resList P T rs).bind fun l => .ret (T t :: l)
  | .cell a t :: rs => (loadA P t (T a)).bind fun v => (resList P T rs).bind fun l => .ret (v :: l)
def oneOf : List Value → Value
  | [v] => v
  | vs => .tuple ⟨vs⟩
def resM (P : Program) (rs : List ResultVar) (T : Nat → Value) : M Value := (resList P T rs).bind fun l => .ret (oneOf l)
def initT (args : List Value) : Nat → Value := fun t => args.getD t undef
mutual
def exec (P : Program) (F : FuncId → Bool) : Nat → Code → (Nat → Value) → St → Option (Ex × (Nat → Value) × St)
  | 0, _, _, _ => none
  | k + 1, .skip, T, s | k + 1, .label _, T, s => some (.normal, T, s)
  | k + 1, .ret, T, s => some (.ret, T, s)
  | k + 1, .exit id, T, s => some (.exit id, T, s)
  | k + 1, .region _ ops false, T, s => (runOps (callF P F k) P ops ops.toList T s).map fun r => (.normal, r.1, r.2)
  | k + 1, .region _ ops true, T, s => (drawOps (callF P F k) P ops T s).map fun r => (.normal, r.1, r.2)
  | k + 1, .seq a b, T, s => (exec P F k a T s).bind fun r => match r.1 with
    | .normal => exec P F k b r.2.1 r.2.2
    | e => some r
  | k + 1, .cond c a b, T, s => match boolOf? (ev T c) with
    | some true => exec P F k a T s
    | some false => exec P F k b T s
    | none => none
  | k + 1, .scope c, T, s => exec P F k c T s
  | k + 1, .block id c, T, s => (exec P F k c T s).map fun r => (if r.1 = .exit id then .normal else r.1, r.2)
  | k + 1, .loop c, T, s => (exec P F k c T s).bind fun r => match r.1 with
    | .normal => exec P F k (.loop c) r.2.1 r.2.2
    | e => some r
  | _, _, _, _ => none
def callF (P : Program) (F : FuncId → Bool) : Nat → CallF
  | 0, _, _, _ => none
  | k + 1, f, args, s => if F f = true then
      match P.funcs[f]? with
      | some fn => match fn.body with
        | some c => (exec P F k c (initT args) s).bind fun r => match r.1 with
          | .exit _ => none
          | _ => ((resM P fn.results.toList r.2.1).run r.2.2).map fun q => (q.1, q.2.1)
        | none => none
      | none => none
    else none
end
end Go.Am
