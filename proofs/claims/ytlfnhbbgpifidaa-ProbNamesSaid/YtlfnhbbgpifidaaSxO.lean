/- Regions whose operations may come in many orders: which orders must be walked. Definitions. -/
import Derived.Test.YtlfnhbbgpifidaaSxJ
namespace Go.Proofs.Ytlfnhbbgpifidaa.Sx
set_option linter.unusedVariables false
set_option linter.unusedSimpArgs false
open Go.RowKit

def V.isB : V → Bool
  | .bool _ => true
  | _ => false
def V.tst : V → Bool
  | .bool b => b
  | _ => false

/-- Operations that leave the memory as it is, and write their own slot. -/
def quiet : Op → Bool
  | .move _ | .pick .. | .load .. | .fieldAddr .. | .field .. | .index .. | .indexAddr .. | .nilCheck _ | .binOp .. | .extract .. | .makeFunc .. | .makeInterface .. | .build .. => true
  | .unOp .not _ _ | .unOp .neg _ _ => true
  | .convert .. => true
  | .call { callee := .builtin .len, .. } | .call { callee := .builtin .min, .. } | .call { callee := .builtin .max, .. } => true
  | _ => false
/-- Those that look into it. -/
def looks : Op → Bool
  | .load .. => true
  | _ => false
def isCallV : Op → Bool
  | .call { callee := .value _, .. } => true
  | _ => false

def depsOf (o : Oper) : List Nat := (o.after.toList.filter (Region.binds .any)).map (·.on)
def depsAt (ops : List Oper) (i : Nat) : List Nat := match ops[i]? with | some o => depsOf o | none => []
def dstAt (ops : List Oper) (i : Nat) : Option Tmp := (ops[i]?).bind (·.dst)
def quietAt (ops : List Oper) (i : Nat) : Bool := match ops[i]? with | some o => quiet o.op | none => false
def looksAt' (ops : List Oper) (i : Nat) : Bool := match ops[i]? with | some o => looks o.op | none => false

def tmpsOf : List Operand → List Tmp
  | [] => []
  | .tmp t :: r => t :: tmpsOf r
  | _ :: r => tmpsOf r
def slotG (ops : List Oper) : Option (Nat × Bool) → List Tmp
  | some (j, _) => (dstAt ops j).toList
  | none => []
/-- The slots that an operation looks at. -/
def seesT (ops : List Oper) (o : Oper) : List Tmp := tmpsOf o.op.operands.toList ++ slotG ops o.guard

def ancOf (t : List (Nat × Nat)) (i : Nat) : Nat := match t.lookup i with | some m => m | none => 0
/-- What must come before an operation, as bits. -/
def ancB (ops : List Oper) : List Nat → List (Nat × Nat) → List (Nat × Nat)
  | [], t => t
  | i :: r, t => ancB ops r ((i, (depsAt ops i).foldl (fun m d => m ||| (1 <<< d) ||| ancOf t d) 0) :: t)

def readyL (ops : List Oper) (done : List Nat) : List Nat := (List.range ops.length).filter fun i => !done.contains i && (depsAt ops i).all done.contains

/-- An order in which all may come. -/
def anOrder (ops : List Oper) : Nat → List Nat → List Nat
  | 0, done => done
  | n + 1, done =>
    match readyL ops done with
    | i :: _ => anOrder ops n (done ++ [i])
    | [] => done

abbrev Gd := Option (Option Tmp × Bool)
structure CK where
  dst : Option Tmp
  op : Op
  gd : Gd

/-- The orders, as a tree. -/
inductive PT where
  | bad
  | done
  | q (dst : Option Tmp) (op : Op) (gd : Gd) (next : PT)
  | br (dst : Option Tmp) (op : Op) (gd : Gd) (ck : List CK) (next other : PT)
  | fin

def gdAt (ops : List Oper) : Option (Nat × Bool) → Gd
  | none => none
  | some (j, w) => some (dstAt ops j, w)
def ckAt (ops : List Oper) (i : Nat) : List CK := match ops[i]? with | some o => [⟨o.dst, o.op, gdAt ops o.guard⟩] | none => []
def cksAt (ops : List Oper) (t : List (Nat × Nat)) (done : List Nat) (j : Nat) : List CK :=
  (done.filter fun k => looksAt' ops k && !(ancOf t j).testBit k).flatMap (ckAt ops)

def brs (ops : List Oper) (t : List (Nat × Nat)) (done : List Nat) (f : Nat → PT) : List Nat → PT
  | [] => .fin
  | j :: r => match ops[j]? with
    | some o => .br o.dst o.op (gdAt ops o.guard) (cksAt ops t done j) (f j) (brs ops t done f r)
    | none => .bad
def qt (ops : List Oper) (i : Nat) (nx : PT) : PT := match ops[i]? with
  | some o => .q o.dst o.op (gdAt ops o.guard) nx
  | none => .bad

def mkT (ops : List Oper) (t : List (Nat × Nat)) : Nat → List Nat → PT
  | 0, done => if (List.range ops.length).all done.contains = true then .done else .bad
  | n + 1, done =>
    match (readyL ops done).find? (quietAt ops) with
    | some i => qt ops i (mkT ops t n (done ++ [i]))
    | none => match readyL ops done with
      | [] => .bad
      | l => brs ops t done (fun j => mkT ops t n (done ++ [j])) l

/-- What an operation looks at was written before it by something that must come before it, or is written by what must come after it. -/
def slotsOk (ops : List Oper) (t : List (Nat × Nat)) (i : Nat) : Bool :=
  match ops[i]? with
  | none => false
  | some o => ((seesT ops o).all fun s => (List.range ops.length).all fun p => dstAt ops p != some s || (ancOf t i).testBit p || (!quietAt ops p && (ancOf t p).testBit i))
      && (quiet o.op || silent o.op || isCallV o.op)
def nodupB : List Nat → Bool
  | [] => true
  | x :: r => !r.contains x && nodupB r

def planT (ops : List Oper) (t : List (Nat × Nat)) : Option PT :=
  if ((List.range ops.length).all (slotsOk ops t) && nodupB (ops.filterMap (·.dst))) = true then some (mkT ops t ops.length []) else none
def plan (ops : List Oper) : Option PT := planT ops (ancB ops (anOrder ops ops.length []) [])
end Go.Proofs.Ytlfnhbbgpifidaa.Sx
