/- A table of functions. -/
import Derived.Test.YtacoaelokdamnaaGreatIr
set_option linter.all false
namespace Go.Mini

inductive FT where
  | nil
  | node (f : Nat) (ir : FnIR) (l r : FT)

def FT.get : FT → Nat → Option FnIR
  | .nil, _ => none
  | .node f ir l r, g => match Nat.beq g f with
    | true => some ir
    | false => match Nat.ble g f with
      | true => l.get g
      | false => r.get g

/-- 'slices.Clone'. -/
def cloneD0 (e bytes : Nat) (ag : Bool) (x : D) (H : Heap) : Option (D × Option Blk) :=
  match x with
  | .lit .nil _ => some (.lit .nil [], none)
  | _ => match elems H x e ag with
    | none => none
    | some ys => match ys with
      | [] => match x with
        | .lit .exact _ => some (.lit .exact [], none)
        | .lit .spare _ => some (.lit .exact [], none)
        | .sl _ _ _ _ _ none => some (.lit .exact [], none)
        | _ => none
      | _ :: _ => match Nat.ble (ys.length * bytes) 140737488355328 && Nat.ble 1 bytes with
        | true => some (.sl H.length 0 ys.length e ag none, some (.cells true true (ys.flatMap D.flat)))
        | false => none
/-- Is it an empty slice that may be nil? -/
def mayNil : D → Bool
  | .lit .any [] => true
  | .lit .ful [] => true
  | .lit .bor [] => true
  | _ => false
def cloneD (e bytes : Nat) (ag : Bool) (x : D) (H : Heap) : Option (D × Option Blk) :=
  match mayNil x with
  | true => some (.lit .ful [], none)
  | false => cloneD0 e bytes ag x H

/-- What a seat's functions are: the floats' bits, the instances of 'slices.Clone' (the function, its elements' cells and bytes). -/
structure Prm where
  fo : Nat
  of : Nat
  cl : List (Nat × Nat × Nat × Bool)

def nwD (cl : List (Nat × Nat × Nat × Bool)) (f : Nat) (ds : List D) (H : Heap) : Option (D × Option Blk) :=
  match cl with
  | [] => none
  | (g, e, bytes, ag) :: r => match Nat.beq f g with
    | true => (match ds with
      | [x] => cloneD e bytes ag x H
      | _ => none)
    | false => nwD r f ds H

def FT.tbl (p : Prm) (t : FT) : Tbl := ⟨fun f _ => t.get f, fun _ _ => none, fun _ _ _ => none, fun f => Nat.beq f p.fo, fun f => Nat.beq f p.of, nwD p.cl⟩

end Go.Mini
