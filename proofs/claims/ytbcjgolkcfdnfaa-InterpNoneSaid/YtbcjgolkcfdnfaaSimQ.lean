import Derived.Test.YtbcjgolkcfdnfaaSimP
/- Sim, seventeenth text: how a function's text is to be read, found by its text. No condition. -/
namespace Go.Proofs.Ytbcjgolkcfdnfaa.Sim
open Go

/-- All operations of a text. -/
def opsOf : Code → List Oper
  | .region _ ops _ => ops.toList
  | .seq x y => opsOf x ++ opsOf y
  | .cond _ x y => opsOf x ++ opsOf y
  | .block _ c | .loop c | .scope c => opsOf c
  | _ => []

def condsOf : Code → List Operand
  | .seq x y => condsOf x ++ condsOf y
  | .cond c x y => c :: (condsOf x ++ condsOf y)
  | .block _ c | .loop c | .scope c => condsOf c
  | _ => []

def drawnOf : Code → List (Nat × Array Oper)
  | .region id ops true => [(id, ops)]
  | .seq x y => drawnOf x ++ drawnOf y
  | .cond _ x y => drawnOf x ++ drawnOf y
  | .block _ c | .loop c | .scope c => drawnOf c
  | _ => []

/-- Slots that hold addresses within what a slot points to. -/
def derivOf (acc : List Nat) (l : List Oper) : List Nat :=
  l.foldl (fun acc o => match o.op, o.dst with
    | .fieldAddr _ (.tmp t) _, some d | .nilCheck (.tmp t), some d => if acc.contains t && !acc.contains d then d :: acc else acc
    | _, _ => acc) acc

def inT (acc : List Nat) : Operand → Bool
  | .tmp t => acc.contains t
  | _ => false

/-- Operands that others come to know. -/
def openOf (o : Oper) : List Operand :=
  match o.op with
  | .load _ _ | .fieldAddr _ _ _ | .nilCheck _ => []
  | .store _ _ y => [y]
  | op => op.operands.toList

def autoEsc (fn : Func) (c : Code) : List Nat :=
  let l := opsOf c
  let opened := l.flatMap openOf ++ condsOf c ++ fn.results.toList.flatMap (fun r => match r with | .tmp t => [.tmp t] | .cell _ _ => [])
  l.filterMap fun o => match o.op, o.dst with
    | .alloc _, some d | .box _ _, some d => let acc := derivOf (derivOf [d] l) l; if opened.any (inT acc) then some d else none
    | _, _ => none

/-- All orders of some operations that may be. -/
def extsOf (lt : Nat → Nat → Bool) : Nat → List Nat → List (List Nat)
  | 0, _ => [[]]
  | n + 1, rem => match rem with
    | [] => [[]]
    | rem => (rem.filter fun i => !rem.any (fun x => lt x i)).flatMap fun i => (extsOf lt n (rem.erase i)).map (i :: ·)

/-- An order of all operations in which those that do something come as told; what only computes comes as early as can be, a new variable of the function's own as late. -/
def fillOrd (lt : Nat → Nat → Bool) (kd : Nat → Nat) : Nat → List Nat → List Nat → List Nat
  | 0, _, _ => []
  | n + 1, rem, es =>
    let ready := rem.filter fun i => !rem.any (fun x => lt x i)
    match ready.find? (fun i => Nat.beq (kd i) 0) with
    | some i => i :: fillOrd lt kd n (rem.erase i) es
    | none =>
      match ready.find? (fun i => Nat.beq (kd i) 2 && es.head? == some i) with
      | some i => i :: fillOrd lt kd n (rem.erase i) es.tail
      | none =>
        match ready.find? (fun i => Nat.beq (kd i) 1) with
        | some i => i :: fillOrd lt kd n (rem.erase i) es
        | none => []
def kdOf (P : Program) (esc : List Nat) (ops : Array Oper) (i : Nat) : Nat := match ops[i]? with | some o => kindX P esc o | none => 0

/-- What must be stable in an order. -/
def autoObl (P : Program) (esc : List Nat) (ops : Array Oper) (bs : List (List Nat)) (ord : List Nat) : List (Nat × List Nat) :=
  let r := List.range ops.size
  let ahead := fun (x y : Nat) => Nat.blt (ord.idxOf x) (ord.idxOf y)
  r.filterMap fun i => match ops[i]? with
    | some o =>
      match (match kindX P esc o with
        | 2 => r.filter (fun k => ahead k i && !ltB bs k i && (match ops[k]? with | some q => isLoad q | none => false))
        | 0 => if isLoad o then r.filter (fun k => ahead i k && !ltB bs i k && (match ops[k]? with | some q => kindX P esc q == 1 | none => false)) else []
        | _ => []) with
      | [] => none
      | l => some (i, l)
    | none => none

def autoOrds (P : Program) (esc : List Nat) (ops : Array Oper) : List (List Nat × List (Nat × List Nat)) :=
  let bs := mkBs ops
  let r := List.range ops.size
  (extsOf (ltB bs) ops.size (r.filter (isEff P esc ops))).map fun es =>
    let ord := fillOrd (ltB bs) (kdOf P esc ops) ops.size r es
    (ord, autoObl P esc ops bs ord)

def autoCfg (P : Program) (fn : Func) (c : Code) : Cfg :=
  let esc := autoEsc fn c
  ⟨esc, (drawnOf c).map fun x => (x.1, autoOrds P esc x.2)⟩
end Go.Proofs.Ytbcjgolkcfdnfaa.Sim
