/- The abstract interpreter: a small language of operations, and what it does. -/
import Derived.Test.YtacoaelokdamnaaGreatLists
set_option linter.all false
namespace Go.Mini

/-- A block of the abstract heap: its cells; live: it may be read and written; opn: behind its cells there may be room. -/
inductive Blk where
  | cells (live opn : Bool) (xs : List D)
  | map (live : Bool) (kv : List (D × D))
  deriving Inhabited

abbrev Heap := List Blk

inductive Rs (α : Type) where
  | ok (a : α)
  | pan (d : D) (h : Heap)
  | no

def Rs.bind {α β : Type} : Rs α → (α → Rs β) → Rs β
  | .ok a, f => f a
  | .pan d h, _ => .pan d h
  | .no, _ => .no

def Rs.of {α : Type} : Option α → Rs α
  | some a => .ok a
  | none => .no

abbrev Env := List (Nat × D)
def look (t : Nat) : Env → Option D
  | [] => none
  | (u, d) :: r => match Nat.beq t u with
    | true => some d
    | false => look t r

inductive Opd where
  | t (n : Nat)
  | k (d : D)

def Opd.ev (o : Opd) (E : Env) : Option D :=
  match o with
  | .t n => look n E
  | .k d => some d

def evs (os : List Opd) (E : Env) : Option (List D) :=
  match os with
  | [] => some []
  | o :: os => match o.ev E with
    | none => none
    | some d => match evs os E with
      | none => none
      | some ds => some (d :: ds)

/-! ### Memory -/
def cellsOf (H : Heap) (b : Nat) : Option (Bool × List D) :=
  match H[b]? with
  | some (.cells true opn xs) => some (opn, xs)
  | _ => none

/-- n cells as a value. -/
def asVal (xs : List D) (n : Nat) (ag : Bool) : Option D :=
  match ag with
  | true => match Nat.beq xs.length n with
    | true => some (.agg xs)
    | false => none
  | false => match xs with
    | [x] => match x.isAgg with
      | false => some x
      | true => none
    | _ => none

def ldp (H : Heap) (p : D) (n : Nat) (ag : Bool) : Option D :=
  match p with
  | .rp _ x o => asVal ((x.flat.drop o).take n) n ag
  | .ptr b o => match cellsOf H b with
    | some (_, xs) => asVal ((xs.drop o).take n) n ag
    | none => none
  | _ => none

def D.cell : D → Bool
  | .agg _ => false
  | .tup _ => false
  | _ => true

/-- Cells in another place. -/
def patch (xs : List D) (o : Nat) (ys : List D) : List D := xs.take o ++ (ys ++ xs.drop (o + ys.length))

def setCells (H : Heap) (b o : Nat) (ys : List D) : Option Heap :=
  match cellsOf H b with
  | some (opn, xs) => match Nat.ble (o + ys.length) xs.length && ys.all D.cell with
    | true => some (H.set b (.cells true opn (patch xs o ys)))
    | false => none
  | none => none

def stp (H : Heap) (p : D) (x : D) (n : Nat) : Option Heap :=
  match p with
  | .ptr b o => match Nat.beq x.flat.length n with
    | true => setCells H b o x.flat
    | false => none
  | _ => none

/-- Are all of a size, and structs or not? -/
def allSize (e : Nat) (ag : Bool) (xs : List D) : Bool := xs.all fun x => Nat.beq x.flat.length e && (x.isAgg == ag)

/-- The elements of a slice. -/
def elems (H : Heap) (y : D) (e : Nat) (ag : Bool) : Option (List D) :=
  match y with
  | .lit _ xs => match allSize e ag xs with
    | true => some xs
    | false => none
  | .sl b off n esz ag' _ => match cellsOf H b with
    | some (_, xs) => match Nat.beq e esz && (ag == ag') && Nat.ble (off + n * e) xs.length && (ag || (Nat.beq e 1 && xs.all (!·.isAgg))) with
      | true => some (chunks e ag n (xs.drop off))
      | false => none
    | none => none
  | _ => none

def slen : D → Option Nat
  | .lit _ xs => some xs.length
  | .sl _ _ n _ _ _ => some n
  | _ => none

mutual
/-- Without live parts. -/
def isFz : D → Bool
  | .sl .. => false
  | .ptr .. => false
  | .mp _ => false
  | .agg xs => isFzs xs
  | .tup xs => isFzs xs
  | .fn _ a c => isFzs a && isFzs c
  | .ifc _ x => isFz x
  | _ => true
def isFzs : List D → Bool
  | [] => true
  | x :: xs => isFz x && isFzs xs
end

mutual
/-- Nowhere may it be the memory of a live block. -/
def nobor : D → Bool
  | .s _ => true
  | .agg xs => nobors xs
  | .tup xs => nobors xs
  | .lit k xs => (match k with | .bor => false | _ => true) && nobors xs
  | .rp b x _ => !b && nobor x
  | .sl .. => false
  | .ptr .. => false
  | .fn _ a c => nobors a && nobors c
  | .ifc _ x => nobor x
  | .mp _ => false
  | .unk .. => true
def nobors : List D → Bool
  | [] => true
  | x :: xs => nobor x && nobors xs
end

/-- A value with its live parts as they read now. bo: as borrowed ones. -/
def optMap (f : D → Option D) : List D → Option (List D)
  | [] => some []
  | x :: xs => match f x with
    | none => none
    | some y => match optMap f xs with
      | none => none
      | some ys => some (y :: ys)

def fz (bo : Bool) (H : Heap) : Nat → D → Option D
  | 0, _ => none
  | n + 1, d => match d with
    | .s v => some (.s v)
    | .lit k xs => some (.lit k xs)
    | .rp b x o => some (.rp b x o)
    | .agg xs => match optMap (fz bo H n) xs with | some ys => some (.agg ys) | none => none
    | .tup xs => match optMap (fz bo H n) xs with | some ys => some (.tup ys) | none => none
    | .fn f a c => match optMap (fz bo H n) a, optMap (fz bo H n) c with
      | some a', some c' => some (.fn f a' c')
      | _, _ => none
    | .ifc t x => match fz bo H n x with | some y => some (.ifc t y) | none => none
    | .sl b off m esz ag _ => match elems H (.sl b off m esz ag none) esz ag with
      | some xs => match optMap (fz bo H n) xs with
        | some ys => some (.lit (if bo then .bor else .spare) ys)
        | none => none
      | none => none
    | .ptr b off => match cellsOf H b with
      | some (_, xs) => match optMap (fz bo H n) xs with
        | some ys => some (.rp bo (.agg ys) off)
        | none => none
      | none => none
    | .mp _ => none
    | .unk u p => some (.unk u p)

/-! ### Operations -/
/-- The kind of a cell that is compared. -/
inductive CK where
  | i | b | s
  deriving DecidableEq
inductive Eqk where
  | nilp | nili | nils | bools | cells (ks : List CK)
  deriving DecidableEq

inductive IOp where
  | mov (x : Opd)
  | pick (c a b : Opd)
  | alloc (zs : List D)
  | box (x : Opd)
  | bxl (x : Opd)
  | build (zs : List D) (parts : List (Nat × Nat × Opd))
  | bsl (asLit : Bool) (e : Nat) (ag : Bool) (zs : List D) (len : Nat) (parts : List (Nat × Opd))
  | load (p : Opd) (n : Nat) (ag : Bool)
  | store (p x : Opd) (n : Nat)
  | nck (x : Opd)
  | bin (op : BinOp) (x y : Opd)
  | eqk (k : Eqk) (neg : Bool) (x y : Opd)
  | un (op : UnOp) (x : Opd)
  | cvi (k : IntKind) (x : Opd)
  | fad (p : Opd) (off : Nat)
  | ixa (x i : Opd) (e : Nat) (arr : Option Nat)
  | slc (x : Opd) (lo hi mx : Option Opd) (e : Nat) (ag : Bool)
  | sls (x : Opd) (lo hi : Option Opd)
  | sla (x : Opd) (lo hi : Option Opd) (N e : Nat) (ag : Bool)
  | fld (x : Opd) (off n : Nat) (ag : Bool)
  | ext (x : Opd) (i : Nat)
  | call (live : Bool) (f k : Nat) (xs : List Opd)
  | clv (live : Bool) (x : Opd) (xs : List Opd)
  | len (x : Opd)
  | sln (x : Opd)
  | app (asLit : Bool) (x y : Opd) (e bytes : Nat) (ag : Bool)
  | cpy (x y : Opd) (e : Nat) (ag : Bool)
  | mn (x y : Opd)
  | mx (x y : Opd)
  | pan (x : Opd)
  | mki (t : TypeId) (x : Opd)
  | mkf (f : FuncId) (first cap : List Opd)
  | msl (asLit : Bool) (n c : Opd) (e bytes : Nat) (ag : Bool) (zs : List D)
  | fof (g : Nat) (x : Opd)
  | off (g : Nat) (x : Opd)
  | idx (x i : Opd) (e N : Nat) (ag : Bool)
  | ids (x i : Opd)
  | clr (x : Opd) (e : Nat) (zs : List D)
  | tas (t : TypeId) (x : Opd)
  | cap (x : Opd)
  | nwc (f : Nat) (xs : List Opd)
  | s2s (x : Opd)
  | flt (op : BinOp) (x y : Opd)
  | bad

structure Ins where
  dst : Option Nat
  g : Option (Nat × Bool)
  op : IOp

structure Cx where
  pc : Nat → Nat → List D → Rs D
  lc : Nat → Nat → List D → Heap → Rs (D × Heap)
  fo : Nat → Bool
  of : Nat → Bool
  nw : Nat → List D → Heap → Option (D × Option Blk)

/-- The bits of what is no number, of 64 bits. -/
def NanB (b : Nat) : Prop := b < 2 ^ 64 ∧ b / 2 ^ 52 % 2048 = 2047 ∧ b % 2 ^ 52 ≠ 0

def fltR : Option Nat → D
  | some r => .s (.float .f64 r)
  | none => .unk false NanB

/-- An operation of floats. -/
def fltD (op : BinOp) (a b : Nat) : Option D :=
  match op with
  | .add => some (fltR (FloatKind.f64.format.add a b))
  | .sub => some (fltR (FloatKind.f64.format.sub a b))
  | .mul => some (fltR (FloatKind.f64.format.mul a b))
  | .quo => some (fltR (FloatKind.f64.format.div a b))
  | .eql => some (.s (.bool (FloatKind.f64.format.order a b == some .eq)))
  | .neq => some (.s (.bool (FloatKind.f64.format.order a b != some .eq)))
  | _ => none

/-- Bytes. -/
def byteList : List D → Option (List Int)
  | [] => some []
  | .s (.int .u8 n) :: r => match byteList r with
    | some l => some (n :: l)
    | none => none
  | _ => none
def strOf (ns : List Int) : ByteArray := ⟨(ns.map fun n => UInt8.ofNat n.toNat).toArray⟩

def intBin (op : BinOp) (k : IntKind) (a b : Int) : Option Value :=
  match op with
  | .add => some (.int k (k.wrap (a + b)))
  | .sub => some (.int k (k.wrap (a - b)))
  | .mul => some (.int k (k.wrap (a * b)))
  | .quo => match decide (b = 0) with
    | true => none
    | false => some (.int k (k.wrap (a.tdiv b)))
  | .rem => match decide (b = 0) with
    | true => none
    | false => some (.int k (a.tmod b))
  | .and => some (.int k (k.wrap (BitVec.ofInt k.bits a &&& BitVec.ofInt k.bits b).toNat))
  | .or => some (.int k (k.wrap (BitVec.ofInt k.bits a ||| BitVec.ofInt k.bits b).toNat))
  | .xor => some (.int k (k.wrap (BitVec.ofInt k.bits a ^^^ BitVec.ofInt k.bits b).toNat))
  | .andNot => some (.int k (k.wrap (BitVec.ofInt k.bits a &&& ~~~(BitVec.ofInt k.bits b)).toNat))
  | .eql => some (.bool (a == b))
  | .neq => some (.bool (a != b))
  | .lss => some (.bool (a < b))
  | .leq => some (.bool (a ≤ b))
  | .gtr => some (.bool (a > b))
  | .geq => some (.bool (a ≥ b))
  | _ => none

def binV (op : BinOp) (x y : Value) : Option Value :=
  match x, y with
  | .int k a, .int k' b =>
    match op with
    | .shl => match decide (b < 0) with
      | true => none
      | false => some (.int k (k.wrap (a * 2 ^ (min b.toNat k.bits))))
    | .shr => match decide (b < 0) with
      | true => none
      | false => some (.int k (a.fdiv (2 ^ (min b.toNat k.bits))))
    | _ => match decide (k = k') with
      | true => intBin op k a b
      | false => none
  | .string a, .string b => match op with
    | .eql => some (.bool (a.toList == b.toList))
    | .neq => some (.bool !(a.toList == b.toList))
    | _ => none
  | _, _ => none

/-- Are two values' cells the same? Whole numbers, bools and strings alone. -/
def cellEq (c : CK) (x y : D) : Option Bool :=
  match c, x, y with
  | .i, .s (.int k a), .s (.int k' b) => match decide (k = k') with
    | true => some (a == b)
    | false => none
  | .b, .s (.bool a), .s (.bool b) => some (a == b)
  | .s, .s (.string a), .s (.string b) => some (a.toList == b.toList)
  | _, _, _ => none
def cellsEq : List CK → List D → List D → Option Bool
  | [], [], [] => some true
  | c :: cs, x :: xs, y :: ys => match cellEq c x y, cellsEq cs xs ys with
    | some a, some b => some (a && b)
    | _, _ => none
  | _, _, _ => none

def boolD (b : Bool) : D := .s (.bool b)
def intD (n : Int) : D := .s (.int .i64 n)

def eqkD (k : Eqk) (x y : D) : Option Bool :=
  match k with
  | .nilp => match x, y with
    | .s (.pointer none), .s (.pointer none) => some true
    | .s (.pointer none), .ptr .. => some false
    | .s (.pointer none), .rp .. => some false
    | .ptr .., .s (.pointer none) => some false
    | .rp .., .s (.pointer none) => some false
    | _, _ => none
  | .nili => match x, y with
    | .ifc .., .s .nilIface => some false
    | .s .nilIface, .ifc .. => some false
    | .s .nilIface, .s .nilIface => some true
    | _, _ => none
  | .nils => match x, y with
    | .lit .nil _, .lit .nil _ => some true
    | .lit .exact _, .lit .nil _ => some false
    | .lit .spare _, .lit .nil _ => some false
    | .lit _ (_ :: _), .lit .nil _ => some false
    | .sl .., .lit .nil _ => some false
    | _, _ => none
  | .bools => match x, y with
    | .s (.bool a), .s (.bool b) => some (a == b)
    | _, _ => none
  | .cells ks => match x, y with
    | .agg xs, .agg ys => cellsEq ks xs ys
    | _, _ => none

/-- A number as a place or a count. -/
def idx : D → Option Nat
  | .s (.int _ i) => match decide (0 ≤ i) with
    | true => some i.toNat
    | false => none
  | _ => none

def fillD (cells : List D) : List (Nat × Nat × D) → Option (List D)
  | [] => some cells
  | (o, n, d) :: r => match Nat.beq d.flat.length n && Nat.ble (o + n) cells.length with
    | true => fillD (patch cells o d.flat) r
    | false => none

def evParts (E : Env) : List (Nat × Nat × Opd) → Option (List (Nat × Nat × D))
  | [] => some []
  | (o, n, x) :: r => match x.ev E with
    | none => none
    | some d => match evParts E r with
      | none => none
      | some ds => some ((o, n, d) :: ds)

def reps (zs : List D) : Nat → List D
  | 0 => []
  | n + 1 => zs ++ reps zs n

def optOpd (E : Env) : Option Opd → Option (Option Nat)
  | none => some none
  | some o => match o.ev E with
    | none => none
    | some d => match idx d with
      | none => none
      | some n => some (some n)

/-- A slice of a slice. -/
def slcD (H : Heap) (x : D) (lo hi mx : Option Nat) (e : Nat) (ag : Bool) : Option D :=
  match x with
  | .lit k xs =>
    let l := lo.getD 0
    let h := hi.getD xs.length
    match Nat.ble l h && Nat.ble h xs.length with
    | false => none
    | true => match mx with
      | some m => match Nat.beq m l && Nat.beq m h with
        | true => some (.lit (match k with | .nil => .nil | .exact => .exact | .spare => .exact | _ => .ful) [])
        | false => none
      | none =>
        let ys := (xs.drop l).take (h - l)
        match allSize e ag ys with
        | false => none
        | true => some (.lit (match k with
            | .bor => .bor
            | .exact => match Nat.beq h xs.length with | true => .exact | false => .spare
            | .spare => .spare
            | .nil => .nil
            | .any => .any
            | .ful => match Nat.beq h xs.length with | true => .ful | false => .any) ys)
  | .sl b off n esz ag' cp =>
    let l := lo.getD 0
    let h := hi.getD n
    match mx with
    | some m => match Nat.beq m l && Nat.beq m h && Nat.ble m n with
      | true => some (.lit .exact [])
      | false => none
    | none =>
      match cp with
      | some _ => none
      | none => match cellsOf H b with
        | none => none
        | some (opn, xs) =>
          match Nat.beq e esz && (ag == ag') && Nat.ble l h && (Nat.ble h n || Nat.ble (off + h * e) xs.length) with
          | false => none
          | true => match Nat.beq l 0 with
            | true => some (.sl b off h esz ag none)
            | false => match Nat.ble (off + l * e + 1) xs.length with
              | true => some (.sl b (off + l * e) (h - l) esz ag none)
              | false => match Nat.beq l h with
                | true => some (.lit (if opn then .spare else .exact) [])
                | false => none
  | _ => none

def slsD (x : D) (lo hi : Option Nat) : Option D :=
  match x with
  | .s (.string s) =>
    match Nat.ble (lo.getD 0) (hi.getD s.size) && Nat.ble (hi.getD s.size) s.size with
    | true => some (.s (.string (s.extract (lo.getD 0) (hi.getD s.size))))
    | false => none
  | _ => none

/-- A slice of an array, behind a pointer. -/
def slaD (H : Heap) (x : D) (lo hi : Option Nat) (N e : Nat) (ag : Bool) : Option D :=
  let l := lo.getD 0
  let h := hi.getD N
  match Nat.ble l h && Nat.ble h N && Nat.ble 1 e && (ag || Nat.beq e 1) && Nat.ble (l + 1) N with
  | false => none
  | true => match x with
    | .ptr b o => match cellsOf H b with
      | some (_, xs) => match Nat.ble (o + N * e) xs.length with
        | true => some (.sl b (o + l * e) (h - l) e ag (some (N - l)))
        | false => none
      | none => none
    | .rp bo y o => match Nat.ble (o + N * e) y.flat.length && (ag || y.flat.all (!·.isAgg)) with
      | true => some (.lit (if bo then .bor else .spare) (chunks e ag (h - l) (y.flat.drop (o + l * e))))
      | false => none
    | _ => none

/-- No room to spare. -/
def LK.full : LK → Bool
  | .exact => true
  | .nil => true
  | .ful => true
  | _ => false

/-- What is appended lies in new memory, or in the block's own. -/
def appD (H : Heap) (asLit : Bool) (x y : D) (e bytes : Nat) (ag : Bool) : Option (D × Heap) :=
  match elems H y e ag with
  | none => none
  | some ys => match ys with
    | [] => match slen x with
      | some _ => some (x, H)
      | none => none
    | _ :: _ =>
      match slen x with
      | none => none
      | some n => match Nat.ble ((n + ys.length) * bytes) 140737488355328 && Nat.ble 1 bytes with
        | false => none
        | true =>
          match x with
          | .lit k xs => match k.full && allSize e ag xs with
            | false => none
            | true => match asLit with
              | true => match isFzs ys with
                | true => some (.lit .spare (xs ++ ys), H)
                | false => none
              | false => some (.sl H.length 0 (n + ys.length) e ag none, H ++ [.cells true true ((xs ++ ys).flatMap D.flat)])
          | .sl b off m esz ag' none => match cellsOf H b with
            | none => none
            | some (opn, xs) =>
              match Nat.beq e esz && (ag == ag') && Nat.ble (off + m * e) xs.length && (ys.flatMap D.flat).all D.cell with
              | false => none
              | true =>
                match Nat.ble (off + (m + ys.length) * e) xs.length with
                | true => match setCells H b (off + m * e) (ys.flatMap D.flat) with
                  | some H' => some (.sl b off (m + ys.length) e ag none, H')
                  | none => none
                | false =>
                  let new := Blk.cells true true ((xs.drop off).take (m * e) ++ ys.flatMap D.flat)
                  match opn with
                  | false => some (.sl H.length 0 (m + ys.length) e ag none, H ++ [new])
                  | true => some (.sl H.length 0 (m + ys.length) e ag none, (H.set b (.cells false opn xs)) ++ [new])
          | _ => none

def cpyE (H : Heap) (x : D) (zs : List D) (e : Nat) (ag : Bool) : Option (D × Heap) :=
  match zs with
  | [] => some (intD 0, H)
  | _ :: _ => match x with
    | .sl b off _ esz ag' _ => match Nat.beq e esz && (ag == ag') with
      | true => match setCells H b off (zs.flatMap D.flat) with
        | some H' => some (intD zs.length, H')
        | none => none
      | false => none
    | _ => none
def cpyD (H : Heap) (x y : D) (e : Nat) (ag : Bool) : Option (D × Heap) :=
  match elems H y e ag, slen x with
  | some ys, some n => cpyE H x (ys.take n) e ag
  | _, _ => none

/-- A slice's elements set to zero. -/
def clrD (H : Heap) (x : D) (e : Nat) (zs : List D) : Option Heap :=
  match x with
  | .lit _ [] => some H
  | .sl b off n esz _ _ => match Nat.beq e esz with
    | true => match n with
      | 0 => some H
      | _ => setCells H b off (reps zs n)
    | false => none
  | _ => none

/-- A slice's room, where it is known. -/
def capD (H : Heap) (x : D) : Option Nat :=
  match x with
  | .lit .nil _ => some 0
  | .lit .exact xs => some xs.length
  | .lit .ful xs => some xs.length
  | .sl b off _ esz _ cp => match cp with
    | some k => some k
    | none => match cellsOf H b with
      | some (false, xs) => some ((xs.length - off) / esz)
      | _ => none
  | _ => none

def fzArgs (H : Heap) (ds : List D) : Option (List D × Bool) :=
  match isFzs ds with
  | true => some (ds, false)
  | false => match optMap (fz true H 24) ds with
    | some es => some (es, true)
    | none => none

/-! ### Less known -/
mutual
/-- The same with literal slices of whose room only that is known (any; bor: it may be the memory of a live block). -/
def toK (k : LK) : D → D
  | .agg xs => .agg (toKs k xs)
  | .tup xs => .tup (toKs k xs)
  | .lit _ xs => .lit k (toKs k xs)
  | .rp b x o => .rp b (toK k x) o
  | .fn f a c => .fn f (toKs k a) (toKs k c)
  | .ifc t x => .ifc t (toK k x)
  | .s v => .s v
  | .sl b off n esz ag cp => .sl b off n esz ag cp
  | .ptr b off => .ptr b off
  | .mp b => .mp b
  | .unk u p => .unk u p
def toKs (k : LK) : List D → List D
  | [] => []
  | x :: xs => toK k x :: toKs k xs
end
def kOf : Bool → LK
  | true => .any
  | false => .bor
def canon (d : D) : D := toK (kOf (nobor d)) d
def canons (ds : List D) : List D := toKs (kOf (nobors ds)) ds

def callD (cx : Cx) (live : Bool) (f k : Nat) (ds : List D) (H : Heap) : Rs (D × Heap) :=
  match live with
  | true => cx.lc f k ds H
  | false => match fzArgs H ds with
    | none => .no
    | some (es, bo) => match cx.pc f k (canons es) with
      | .ok d => match !bo || nobor d with
        | true => .ok (d, H)
        | false => .no
      | .pan d _ => match !bo || nobor d with
        | true => .pan d H
        | false => .no
      | .no => .no

def Rs.ofV (H : Heap) : Option D → Rs (D × Heap)
  | some d => .ok (d, H)
  | none => .no

/-- Is it a reference to that block? -/
def isNew (d : D) (b : Nat) : Bool :=
  match d with
  | .sl b' _ _ _ _ _ => Nat.beq b' b
  | .ptr b' _ => Nat.beq b' b
  | _ => false

def iev (cx : Cx) (op : IOp) (E : Env) (H : Heap) : Rs (D × Heap) :=
  match op with
  | .mov x => .ofV H (x.ev E)
  | .pick c a b => match c.ev E with
    | some (.s (.bool true)) => .ofV H (a.ev E)
    | some (.s (.bool false)) => .ofV H (b.ev E)
    | _ => .no
  | .alloc zs => .ok (.ptr H.length 0, H ++ [.cells true false zs])
  | .box x => match x.ev E with
    | some d => .ok (.ptr H.length 0, H ++ [.cells true false d.flat])
    | none => .no
  | .bxl x => match x.ev E with
    | some d => match isFz d with
      | true => .ok (.rp false d 0, H)
      | false => .no
    | none => .no
  | .build zs parts => match evParts E parts with
    | none => .no
    | some ps => match fillD zs ps with
      | some cs => .ok (.agg cs, H)
      | none => .no
  | .bsl asLit e ag zs len parts => match evParts E (parts.map fun (i, x) => (i * e, e, x)) with
    | none => .no
    | some ps => match fillD (reps zs len) ps with
      | none => .no
      | some cs => match asLit with
        | false => .ok (.sl H.length 0 len e ag none, H ++ [.cells true false cs])
        | true => match isFzs cs && (ag || (Nat.beq e 1 && cs.all (!·.isAgg))) with
          | true => .ok (.lit .exact (chunks e ag len cs), H)
          | false => .no
  | .load p n ag => match p.ev E with
    | some d => .ofV H (ldp H d n ag)
    | none => .no
  | .store p x n => match p.ev E, x.ev E with
    | some d, some y => match stp H d y n with
      | some H' => .ok (.tup [], H')
      | none => .no
    | _, _ => .no
  | .nck x => match x.ev E with
    | some (.ptr b o) => .ok (.ptr b o, H)
    | some (.rp b y o) => .ok (.rp b y o, H)
    | _ => .no
  | .bin op x y => match x.ev E, y.ev E with
    | some (.s a), some (.s b) => match binV op a b with
      | some v => .ok (.s v, H)
      | none => .no
    | _, _ => .no
  | .eqk k neg x y => match x.ev E, y.ev E with
    | some a, some b => match eqkD k a b with
      | some r => .ok (boolD (neg != r), H)
      | none => .no
    | _, _ => .no
  | .un op x => match op, x.ev E with
    | .not, some (.s (.bool b)) => .ok (boolD !b, H)
    | .neg, some (.s (.int k n)) => .ok (.s (.int k (k.wrap (0 - n))), H)
    | .xor, some (.s (.int k n)) => .ok (.s (.int k (k.wrap (BitVec.ofInt k.bits (if k.signed then -1 else k.max) ^^^ BitVec.ofInt k.bits n).toNat)), H)
    | _, _ => .no
  | .cvi k x => match x.ev E with
    | some (.s (.int _ n)) => .ok (.s (.int k (k.wrap n)), H)
    | _ => .no
  | .fad p off => match p.ev E with
    | some (.ptr b o) => .ok (.ptr b (o + off), H)
    | some (.rp bo x o) => .ok (.rp bo x (o + off), H)
    | _ => .no
  | .ixa x i e arr => match x.ev E, i.ev E with
    | some d, some j => match idx j with
      | none => .no
      | some n => match arr with
        | some N => match Nat.ble (n + 1) N, d with
          | true, .ptr b o => .ok (.ptr b (o + n * e), H)
          | true, .rp bo y o => .ok (.rp bo y (o + n * e), H)
          | _, _ => .no
        | none => match d with
          | .lit k xs => match xs[n]? with
            | some y => match Nat.beq y.flat.length e with
              | true => .ok (.rp (match k with | .bor => true | _ => false) y 0, H)
              | false => .no
            | none => .no
          | .sl b off m esz _ _ => match Nat.ble (n + 1) m && Nat.beq e esz with
            | true => .ok (.ptr b (off + n * e), H)
            | false => .no
          | _ => .no
    | _, _ => .no
  | .slc x lo hi mx e ag => match x.ev E, optOpd E lo, optOpd E hi, optOpd E mx with
    | some d, some l, some h, some m => .ofV H (slcD H d l h m e ag)
    | _, _, _, _ => .no
  | .sls x lo hi => match x.ev E, optOpd E lo, optOpd E hi with
    | some d, some l, some h => .ofV H (slsD d l h)
    | _, _, _ => .no
  | .sla x lo hi N e ag => match x.ev E, optOpd E lo, optOpd E hi with
    | some d, some l, some h => .ofV H (slaD H d l h N e ag)
    | _, _, _ => .no
  | .fld x off n ag => match x.ev E with
    | some (.agg xs) => .ofV H (asVal ((xs.drop off).take n) n ag)
    | _ => .no
  | .ext x i => match x.ev E with
    | some (.tup xs) => .ofV H xs[i]?
    | _ => .no
  | .call live f k xs => match evs xs E with
    | some ds => callD cx live f k ds H
    | none => .no
  | .clv live x xs => match x.ev E, evs xs E with
    | some (.fn f first cap), some ds => callD cx live f 0 (first ++ ds ++ cap) H
    | _, _ => .no
  | .len x => match x.ev E with
    | some d => match slen d with
      | some n => .ok (intD n, H)
      | none => .no
    | none => .no
  | .sln x => match x.ev E with
    | some (.s (.string b)) => .ok (intD b.size, H)
    | _ => .no
  | .app asLit x y e bytes ag => match x.ev E, y.ev E with
    | some a, some b => match appD H asLit a b e bytes ag with
      | some r => .ok r
      | none => .no
    | _, _ => .no
  | .cpy x y e ag => match x.ev E, y.ev E with
    | some a, some b => match cpyD H a b e ag with
      | some r => .ok r
      | none => .no
    | _, _ => .no
  | .mn x y => match x.ev E, y.ev E with
    | some (.s (.int k a)), some (.s (.int _ b)) => .ok (.s (.int k (if b < a then b else a)), H)
    | _, _ => .no
  | .mx x y => match x.ev E, y.ev E with
    | some (.s (.int k a)), some (.s (.int _ b)) => .ok (.s (.int k (if b > a then b else a)), H)
    | _, _ => .no
  | .pan x => match x.ev E with
    | some (.ifc t d) => .pan (.ifc t d) H
    | _ => .no
  | .mki t x => match x.ev E with
    | some d => .ok (.ifc t d, H)
    | none => .no
  | .mkf f first cap => match evs first E, evs cap E with
    | some a, some c => .ok (.fn f a c, H)
    | _, _ => .no
  | .msl asLit n c e bytes ag zs => match n.ev E, c.ev E with
    | some a, some b => match idx a, idx b with
      | some l, some m => match Nat.beq l m && Nat.ble (m * bytes) 140737488355328 && Nat.ble m 140737488355328 with
        | false => .no
        | true => match asLit with
          | false => .ok (.sl H.length 0 l e ag none, H ++ [.cells true false (reps zs l)])
          | true => match ag || (Nat.beq e 1 && (reps zs l).all (!·.isAgg)) with
            | true => .ok (.lit .exact (chunks e ag l (reps zs l)), H)
            | false => .no
      | _, _ => .no
    | _, _ => .no
  | .fof g x => match cx.fo g with
    | true => (match x.ev E with
      | some (.s (.int .u64 n)) => .ok (.s (.float .f64 n.toNat), H)
      | _ => .no)
    | false => .no
  | .off g x => match cx.of g with
    | true => (match x.ev E with
      | some (.s (.float .f64 b)) => .ok (.s (.int .u64 b), H)
      | some (.unk false p) => .ok (.unk true p, H)
      | _ => .no)
    | false => .no
  | .idx x i e N ag => match x.ev E, i.ev E with
    | some (.agg xs), some j => match idx j with
      | some n => match Nat.ble (n + 1) N with
        | true => .ofV H (asVal ((xs.drop (n * e)).take e) e ag)
        | false => .no
      | none => .no
    | _, _ => .no
  | .ids x i => match x.ev E, i.ev E with
    | some (.s (.string s)), some j => match idx j with
      | some n => match s.data[n]? with
        | some b => .ok (.s (.int .u8 b.toNat), H)
        | none => .no
      | none => .no
    | _, _ => .no
  | .clr x e zs => match x.ev E with
    | some d => match clrD H d e zs with
      | some H' => .ok (.tup [], H')
      | none => .no
    | none => .no
  | .tas t x => match x.ev E with
    | some (.ifc u d) => match Nat.beq u t with
      | true => .ok (d, H)
      | false => .no
    | _ => .no
  | .cap x => match x.ev E with
    | some d => match capD H d with
      | some n => .ok (intD n, H)
      | none => .no
    | none => .no
  | .nwc f xs => match evs xs E with
    | some ds => match cx.nw f ds H with
      | some (d, none) => .ok (d, H)
      | some (d, some B) => match isNew d H.length with
        | true => .ok (d, H ++ [B])
        | false => .no
      | none => .no
    | none => .no
  | .s2s x => match x.ev E with
    | some d => match elems H d 1 false with
      | some xs => match byteList xs with
        | some ns => .ok (.s (.string (strOf ns)), H)
        | none => .no
      | none => .no
    | none => .no
  | .flt op x y => match x.ev E, y.ev E with
    | some (.s (.float .f64 a)), some (.s (.float .f64 b)) => .ofV H (fltD op a b)
    | _, _ => .no
  | .bad => .no

/-! ### Regions, code -/
inductive IR where
  | skip
  | reg (ins : List Ins) (keep : List Nat)
  | drw (ins : List Ins) (pk : List Nat) (fp : List (Nat × Nat)) (keep : List Nat)
  | dfr (ins : List Ins) (x : Opd) (xs : List Opd) (keep : List Nat)
  | seq (a b : IR)
  | cond (c : Opd) (a b : IR)
  | block (id : Nat) (a : IR)
  | loop (a : IR)
  | exit (id : Nat)
  | ret
  | bad

inductive Ex where
  | nxt
  | exit (id : Nat)
  | ret

/-- A deferred call: the function, its arguments (what it captured behind them). -/
structure Dfd where
  f : Nat
  args : List D

structure St where
  e : Env
  h : Heap
  df : List Dfd

/-- How a piece of code ends. -/
inductive Rc where
  | ok (x : Ex) (st : St)
  | pan (d : D) (st : St)
  | no

/-- How a region ends. -/
inductive Ri where
  | ok (E : Env) (H : Heap)
  | pan (d : D) (E : Env) (H : Heap)
  | no

def wants (g : Option (Nat × Bool)) (E : Env) : Option Bool :=
  match g with
  | none => some true
  | some (t, b) => match look t E with
    | none => none
    | some (.s (.bool c)) => some (c == b)
    | some _ => some false

def putD (dst : Option Nat) (d : D) (E : Env) : Env :=
  match dst with
  | some t => (t, d) :: E
  | none => E

def runIns (cx : Cx) : List Ins → Env → Heap → Ri
  | [], E, H => .ok E H
  | i :: r, E, H => match wants i.g E with
    | none => .no
    | some false => runIns cx r (putD i.dst (.tup []) E) H
    | some true => match iev cx i.op E H with
      | .ok (d, H') => runIns cx r (putD i.dst d E) H'
      | .pan d H' => .pan d E H'
      | .no => .no

/-- The blocks that a region's operations make in whatever order. -/
def allocsOf : List Ins → Heap
  | [] => []
  | i :: r => match i.op with
    | .alloc zs => .cells true false zs :: allocsOf r
    | _ => allocsOf r

/-- The same constants. -/
def sameK : List D → List D → Bool
  | [], [] => true
  | .s a :: r, .s b :: q => atomSame a b && sameK r q
  | .lit .nil [] :: r, .lit .nil [] :: q => sameK r q
  | _, _ => false
where
  atomSame : Value → Value → Bool
    | .bool a, .bool b => a == b
    | .int k a, .int k' b => decide (k = k') && decide (a = b)
    | .float k a, .float k' b => decide (k = k') && decide (a = b)
    | .string a, .string b => decide (a = b)
    | .pointer none, .pointer none => true
    | .nilFunc, .nilFunc => true
    | .nilIface, .nilIface => true
    | .map none, .map none => true
    | _, _ => false

/-- Blocks that are still as they were made. -/
def zerosAt (H : Heap) (na : Nat) : List Blk → Bool
  | [] => true
  | .cells true false zs :: r => (match H[na]? with
    | some (.cells true false ys) => sameK ys zs
    | _ => false) && zerosAt H (na + 1) r
  | _ :: _ => false

/-- A region whose order is open: new blocks are there from the beginning on. -/
def runDrw (cx : Cx) (pk : List Nat) (E0 : Env) : List Ins → Nat → Nat → Env → Heap → Ri
  | [], _, _, E, H => .ok E H
  | i :: r, j, na, E, H => match i.op with
    | .alloc _ => runDrw cx pk E0 r (j + 1) (na + 1) (putD i.dst (.ptr na 0) E) H
    | op => match wants i.g E with
      | none => .no
      | some false => runDrw cx pk E0 r (j + 1) na (putD i.dst (.tup []) E) H
      | some true => match iev cx op E H with
        | .ok (d, H') => match zerosAt H' na (allocsOf r) with
          | true => runDrw cx pk E0 r (j + 1) na (putD i.dst d E) H'
          | false => .no
        | .pan d H' => match pk.contains j with
          | true => .pan d E0 H'
          | false => .no
        | .no => .no

/-- A write leaves n cells alone. -/
def wrApart (y : Ins) (E : Env) (b o n : Nat) : Bool :=
  match y.op with
  | .store p _ k => match p.ev E with
    | some (.ptr b' o') => !Nat.beq b b' || Nat.ble (o + n) o' || Nat.ble (o' + k) o
    | _ => false
  | .box _ => newApart y E b
  | .msl _ _ _ _ _ _ _ => newApart y E b
  | .bsl _ _ _ _ _ _ => newApart y E b
  | .nwc _ _ => newApart y E b
  | .app _ x _ _ _ _ => match x.ev E with
    | some (.lit _ _) => newApart y E b
    | some (.sl bx _ _ _ _ _) => !Nat.beq b bx && newApart y E b
    | _ => false
  | _ => false
where
  newApart (y : Ins) (E : Env) (b : Nat) : Bool :=
    match y.dst with
    | some t => match look t E with
      | some (.ptr b' _) => !Nat.beq b b'
      | some (.sl b' _ _ _ _ _) => !Nat.beq b b'
      | some (.lit _ _) => true
      | _ => false
    | none => false

/-- A load and a write whose order is open have nothing to do with one another. -/
def fpOk (ins : List Ins) (E : Env) (i j : Nat) : Bool :=
  match ins[i]?, ins[j]? with
  | some x, some y => match wants x.g E, wants y.g E with
    | some false, some _ => true
    | some true, some false => true
    | some true, some true => match x.op with
      | .load p n _ => match p.ev E with
        | some (.rp _ _ _) => true
        | some (.ptr b o) => wrApart y E b o n
        | _ => false
      | _ => false
    | _, _ => false
  | _, _ => false
def fpsOk (ins : List Ins) (E : Env) : List (Nat × Nat) → Bool
  | [] => true
  | (i, j) :: r => fpOk ins E i j && fpsOk ins E r

def keepE (keep : List Nat) (E : Env) : Env :=
  match keep with
  | [] => []
  | t :: r => match look t E with
    | some d => (t, d) :: keepE r E
    | none => keepE r E

/-- Without what a region writes. -/
def dropE (ins : List Ins) (E : Env) : Env := E.filter fun p => ins.all fun i => i.dst != some p.1

def runLoop (f : St → Rc) : Nat → St → Rc
  | 0, _ => .no
  | n + 1, st => match f st with
    | .ok .nxt st' => runLoop f n st'
    | r => r

def run (cx : Cx) (n : Nat) : IR → St → Rc
  | .skip, st => .ok .nxt st
  | .reg ins keep, st => match runIns cx ins st.e st.h with
    | .ok E H => .ok .nxt ⟨keepE keep E, H, st.df⟩
    | .pan d E H => .pan d ⟨E, H, st.df⟩
    | .no => .no
  | .drw ins pk fp keep, st => match runDrw cx pk (dropE ins st.e) ins 0 st.h.length st.e (st.h ++ allocsOf ins) with
    | .ok E H => match fpsOk ins E fp with
      | true => .ok .nxt ⟨keepE keep E, H, st.df⟩
      | false => .no
    | .pan d E H => match fp with
      | [] => .pan d ⟨E, H, st.df⟩
      | _ :: _ => .no
    | .no => .no
  | .dfr ins x xs keep, st => match runIns cx ins st.e st.h with
    | .ok E H => (match x.ev E, evs xs E with
      | some (.fn f first cap), some ds => .ok .nxt ⟨keepE keep E, H, ⟨f, first ++ ds ++ cap⟩ :: st.df⟩
      | _, _ => .no)
    | .pan d E H => .pan d ⟨E, H, st.df⟩
    | .no => .no
  | .seq a b, st => match run cx n a st with
    | .ok .nxt st' => run cx n b st'
    | r => r
  | .cond c a b, st => match c.ev st.e with
    | some (.s (.bool true)) => run cx n a st
    | some (.s (.bool false)) => run cx n b st
    | _ => .no
  | .block id a, st => match run cx n a st with
    | .ok (.exit j) st' => (match Nat.beq j id with
      | true => .ok .nxt st'
      | false => .ok (.exit j) st')
    | r => r
  | .loop a, st => runLoop (run cx n a) n st
  | .exit id, st => .ok (.exit id) st
  | .ret, st => .ok .ret st
  | .bad, _ => .no

/-! ### Functions -/
inductive ResD where
  | t (n : Nat)
  | c (n sz : Nat) (ag : Bool)

/-- A function: its temporaries, its code, its results; rcv: it begins by 'x := recover()' (the temporaries). -/
structure FnIR where
  nt : Nat
  body : IR
  res : List ResD
  rcv : Option (Nat × Nat)

def resOf (E : Env) (H : Heap) : ResD → Option D
  | .t n => look n E
  | .c n sz ag => match look n E with
    | some p => ldp H p sz ag
    | none => none

def resList (E : Env) (H : Heap) : List ResD → Option (List D)
  | [] => some []
  | r :: rs => match resOf E H r with
    | none => none
    | some d => match resList E H rs with
      | none => none
      | some ds => some (d :: ds)

/-- The results as one value. -/
def resVal (E : Env) (H : Heap) (rs : List ResD) : Option D :=
  match rs with
  | [r] => resOf E H r
  | _ => match resList E H rs with
    | some ds => some (.tup ds)
    | none => none

def argEnv : Nat → List D → Env
  | _, [] => []
  | i, d :: ds => (i, d) :: argEnv (i + 1) ds

/-- What recover() gives. -/
def rcvD : Option D → D
  | some v => v
  | none => .s .nilIface

/-- The deferred calls, the last one first. -/
def runDfs (tbl : Nat → Option FnIR) (cx : Cx) (n : Nat) : List Dfd → Option D → Heap → Rs (Option D × Heap)
  | [], m, H => .ok (m, H)
  | d :: ds, m, H => match tbl d.f with
    | none => .no
    | some ir => match ir.rcv with
      | none => .no
      | some (t0, t1) =>
        match run cx n ir.body ⟨(t1, rcvD m) :: (t0, rcvD m) :: argEnv 0 d.args, H, []⟩ with
        | .ok .nxt st => match st.df with
          | [] => runDfs tbl cx n ds none st.h
          | _ => .no
        | .ok .ret st => match st.df with
          | [] => runDfs tbl cx n ds none st.h
          | _ => .no
        | _ => .no

/-- What stands behind a function's body: its deferred calls, its results. -/
def finish (tbl : Nat → Option FnIR) (cx : Cx) (n : Nat) (ir : FnIR) (m : Option D) (st : St) : Rs (D × Heap) :=
  match runDfs tbl cx n st.df m st.h with
  | .ok (some v, H) => .pan v H
  | .ok (none, H) => match resVal st.e H ir.res with
    | some d => .ok (d, H)
    | none => .no
  | _ => .no

def endFn (tbl : Nat → Option FnIR) (cx : Cx) (n : Nat) (ir : FnIR) : Rc → Rs (D × Heap)
  | .ok .nxt st => finish tbl cx n ir none st
  | .ok .ret st => finish tbl cx n ir none st
  | .pan d st => finish tbl cx n ir (some d) st
  | _ => .no

def runFn (tbl : Nat → Option FnIR) (cx : Cx) (n : Nat) (ir : FnIR) (args : List D) (H : Heap) : Rs (D × Heap) :=
  match ir.rcv with
  | some _ => .no
  | none => endFn tbl cx n ir (run cx n ir.body ⟨argEnv 0 args, H, []⟩)

/-- A function's code: by number and variant. ex, el: functions whose answers are known by other means. -/
structure Tbl where
  fn : Nat → Nat → Option FnIR
  ex : Nat → List D → Option D
  el : Nat → List D → Heap → Option (D × Heap)
  fo : Nat → Bool
  of : Nat → Bool
  nw : Nat → List D → Heap → Option (D × Option Blk)

mutual
/-- A pure call: on an empty heap, its result without live parts. -/
def callP (T : Tbl) : Nat → Nat → Nat → List D → Rs D
  | 0, _, _, _ => .no
  | n + 1, f, k, ds => match T.ex f ds with
    | some d => .ok d
    | none => match T.fn f k with
      | none => .no
      | some ir => match runFn (fun g => T.fn g 0) ⟨callP T n, callL T n, T.fo, T.of, T.nw⟩ n ir ds [] with
        | .ok (d, H) => (match fz false H 24 d with
          | some r => .ok (canon r)
          | none => .no)
        | .pan d H => (match fz false H 24 d with
          | some r => .pan (canon r) []
          | none => .no)
        | .no => .no
/-- A call in a heap. -/
def callL (T : Tbl) : Nat → Nat → Nat → List D → Heap → Rs (D × Heap)
  | 0, _, _, _, _ => .no
  | n + 1, f, k, ds, H => match T.el f ds H with
    | some r => .ok r
    | none => match T.fn f k with
      | none => .no
      | some ir => runFn (fun g => T.fn g 0) ⟨callP T n, callL T n, T.fo, T.of, T.nw⟩ n ir ds H
end

end Go.Mini
