/- When an operation of the small language is that operation of the machine's code. -/
import Derived.Test.YtacoaelokdamnaaGreatInv
set_option linter.all false
set_option linter.unusedSimpArgs false
set_option linter.unusedVariables false
namespace Go.Mini

def atomEq : Value → Value → Bool
  | .bool a, .bool b => a == b
  | .int k a, .int k' b => decide (k = k') && decide (a = b)
  | .float k a, .float k' b => decide (k = k') && decide (a = b)
  | .string a, .string b => decide (a = b)
  | .pointer none, .pointer none => true
  | .nilFunc, .nilFunc => true
  | .nilIface, .nilIface => true
  | .map none, .map none => true
  | _, _ => false

theorem atomEq_spec {v u : Value} (h : atomEq v u = true) : v = u ∧ atom u = true := by
  unfold atomEq at h
  split at h <;> simp_all [atom]

/-- A value written out in the code. -/
def constOk : Value → D → Bool
  | v, .s u => atomEq v u
  | .slice none 0 0, .lit .nil [] => true
  | .func (.func f) a c, .fn f' [] [] => f == f' && a.isEmpty && c.isEmpty
  | _, _ => false

theorem atom_vAgg {u : Value} (h : atom u = true) : vAgg u = false := by
  cases u <;> simp_all [atom, vAgg]

theorem VV_s {u : Value} (h : atom u = true) (M : Mem) (β : Beta) : VV M β (.s u) u := by
  refine ⟨atom_vAgg h, ?_⟩
  rw [cells_one (atom_vAgg h)]
  simp [VF, h]

theorem constOk_spec {v : Value} {d : D} (h : constOk v d = true) (M : Mem) (β : Beta) : VV M β d v ∧ d.isAgg = false := by
  unfold constOk at h
  split at h
  · obtain ⟨rfl, h2⟩ := atomEq_spec h
    exact ⟨VV_s h2 M β, rfl⟩
  · refine ⟨⟨rfl, ?_⟩, rfl⟩
    simp only [VF, Value.cells]
    exact ⟨none, 0, 0, rfl, rfl, Nat.le_refl _, ⟨rfl, rfl⟩, .inl trivial⟩
  · simp only [Bool.and_eq_true, beq_iff_eq, Array.isEmpty_iff] at h
    obtain ⟨⟨rfl, rfl⟩, rfl⟩ := h
    refine ⟨⟨rfl, ?_⟩, rfl⟩
    simp only [VF, VT, Value.cells]
    exact ⟨#[], #[], rfl, rfl, rfl⟩
  · cases h

def zsOk : List Value → List D → Bool
  | [], [] => true
  | v :: vs, d :: ds => constOk v d && zsOk vs ds
  | _, _ => false

theorem zsOk_spec : ∀ {vs : List Value} {ds : List D}, zsOk vs ds = true → ∀ (M : Mem) (β : Beta), vs.length = ds.length ∧ VE M ds β 1 vs
  | [], [], _, _, _ => ⟨rfl, VE_nil⟩
  | v :: vs, d :: ds, h, M, β => by
    simp only [zsOk, Bool.and_eq_true] at h
    obtain ⟨h1, h2⟩ := constOk_spec h.1 M β
    obtain ⟨h3, h4⟩ := zsOk_spec h.2 M β
    exact ⟨by simp [h3], VE_one_cons.2 ⟨v, vs, rfl, by cases d <;> simp_all [D.flat, D.isAgg], VV_nonagg h1 h2, h4⟩⟩
  | [], _ :: _, h, _, _ => by simp [zsOk] at h
  | _ :: _, [], h, _, _ => by simp [zsOk] at h

def matOpd : Operand → Opd → Bool
  | .tmp t, .t n => Nat.beq t n
  | .const v, .k d => constOk v d
  | .func f, .k (.fn f' [] []) => Nat.beq f f'
  | _, _ => false

def matOpds : List Operand → List Opd → Bool
  | [], [] => true
  | a :: as, b :: bs => matOpd a b && matOpds as bs
  | _, _ => false

def matOpt : Option Operand → Option Opd → Bool
  | none, none => true
  | some a, some b => matOpd a b
  | _, _ => false

def Opd.tmps : Opd → List Nat
  | .t n => [n]
  | .k _ => []
def optTmps : Option Opd → List Nat
  | some x => x.tmps
  | none => []

def IOp.tmps : IOp → List Nat
  | .mov x | .box x | .bxl x | .nck x | .un _ x | .cvi _ x | .fad x _ | .fld x _ _ _ | .ext x _ | .len x | .sln x | .pan x | .mki _ x | .fof _ x | .off _ x | .load x _ _ | .clr x _ _ | .tas _ x | .cap x | .s2s x => x.tmps
  | .idx x y _ _ _ | .ids x y => x.tmps ++ y.tmps
  | .bad => []
  | .pick c a b => c.tmps ++ a.tmps ++ b.tmps
  | .alloc _ => []
  | .build _ ps => ps.flatMap fun p => p.2.2.tmps
  | .bsl _ _ _ _ _ ps => ps.flatMap fun p => p.2.tmps
  | .store x y _ | .bin _ x y | .flt _ x y | .eqk _ _ x y | .ixa x y _ _ | .app _ x y _ _ _ | .cpy x y _ _ | .mn x y | .mx x y | .msl _ x y _ _ _ _ => x.tmps ++ y.tmps
  | .slc x a b c _ _ => x.tmps ++ optTmps a ++ optTmps b ++ optTmps c
  | .sls x a b => x.tmps ++ optTmps a ++ optTmps b
  | .sla x a b _ _ _ => x.tmps ++ optTmps a ++ optTmps b
  | .call _ _ _ xs => xs.flatMap Opd.tmps
  | .nwc _ xs => xs.flatMap Opd.tmps
  | .clv _ x xs => x.tmps ++ xs.flatMap Opd.tmps
  | .mkf _ xs ys => xs.flatMap Opd.tmps ++ ys.flatMap Opd.tmps

section
variable (P : Program)

def aggD : TypeDesc → Bool
  | .struct _ => true
  | .array .. => true
  | _ => false

/-- A type's size in cells, in bytes, and whether it is a struct or an array. -/
def tsz (t : TypeId) : Option (Nat × Nat × Bool) :=
  match P.info? t, P.underlying t with
  | some i, some d => some (i.size, i.bytes, aggD d)
  | _, _ => none

def zeroOk (t : TypeId) (zs : List D) : Bool :=
  match P.info? t with
  | some i => match i.zero with
    | some v => zsOk v.cells.toList zs
    | none => false
  | none => false

/-- Where a part lies, and its size. -/
def placeOf (d : TypeDesc) (i : Nat) : Option (Nat × Nat) :=
  match d with
  | .struct fields => match fields[i]? with
    | some f => match tsz P f.type with
      | some (n, _, _) => some (f.offset, n)
      | none => none
    | none => none
  | .array _ e => match tsz P e with
    | some (n, _, _) => some (i * n, n)
    | none => none
  | _ => none

def allPlaces (d : TypeDesc) : Bool :=
  match d with
  | .struct fields => fields.toList.all fun f => (tsz P f.type).isSome
  | .array _ e => (tsz P e).isSome
  | _ => false

def matParts (d : TypeDesc) : List (Nat × Operand) → List (Nat × Nat × Opd) → Bool
  | [], [] => true
  | (i, x) :: r, (o, n, y) :: s => (match placeOf P d i with
    | some (o', n') => Nat.beq o o' && Nat.beq n n'
    | none => false) && matOpd x y && matParts d r s
  | _, _ => false

def matIdx : List (Nat × Operand) → List (Nat × Opd) → Bool
  | [], [] => true
  | (i, x) :: r, (j, y) :: s => Nat.beq i j && matOpd x y && matIdx r s
  | _, _ => false

/-- A slice type's element. -/
def elemT (t : TypeId) : Option TypeId :=
  match P.underlying t with
  | some (.slice e) => some e
  | _ => none

def sliceOk (t : TypeId) (e bytes : Nat) (ag : Bool) : Bool :=
  match elemT P t with
  | some el => match tsz P el with
    | some (n, b, a) => Nat.beq n e && Nat.beq b bytes && (a == ag)
    | none => false
  | none => false
def sliceOk' (t : TypeId) (e : Nat) (ag : Bool) : Bool :=
  match elemT P t with
  | some el => match tsz P el with
    | some (n, _, a) => Nat.beq n e && (a == ag)
    | none => false
  | none => false

/-- Is '==' of a type asked cell by cell, one behind the other? The cells' kinds. -/
def eqT : Nat → TypeId → Option (List CK)
  | 0, _ => none
  | m + 1, t => match P.underlying t with
    | some (.int _) => some [.i]
    | some .bool => some [.b]
    | some .string => some [.s]
    | some (.array n e) => match eqT m e, tsz P e with
      | some k, some (k', _, _) => match Nat.beq k.length k' with
        | true => some (List.replicate n k).flatten
        | false => none
      | _, _ => none
    | some (.struct fs) => match P.stoodInHeld t with
      | true => none
      | false => eqFs (eqT m) fs.toList 0
    | _ => none
where
  eqFs (rec : TypeId → Option (List CK)) : List Field → Nat → Option (List CK)
    | [], _ => some []
    | f :: fs, off => match f.name == "_", Nat.beq f.offset off, rec f.type, tsz P f.type with
      | false, true, some k, some (k', _, _) => match Nat.beq k.length k' with
        | true => match eqFs rec fs (off + k.length) with
          | some r => some (k ++ r)
          | none => none
        | false => none
      | _, _, _, _ => none

def isEqT (t : TypeId) (ks : List CK) : Bool :=
  match eqT P 8 t, P.underlying t with
  | some ks', some d => decide (ks' = ks) && aggD d && !P.eqGuardType P.depth t
  | _, _ => false

def matOp (op : Op) (i : IOp) : Bool :=
  match i with
  | .mov y => match op with
    | .move x => matOpd x y
    | .assign x => matOpd x y
    | _ => false
  | .pick c a b => match op with
    | .pick c' a' b' => matOpd c' c && matOpd a' a && matOpd b' b
    | _ => false
  | .alloc zs => match op with
    | .alloc t => zeroOk P t zs
    | _ => false
  | .box x => match op with
    | .box _ y => matOpd y x
    | _ => false
  | .bxl x => match op with
    | .box _ y => matOpd y x
    | _ => false
  | .build zs ps => match op with
    | .build t parts => match P.underlying t with
      | some d => zeroOk P t zs && allPlaces P d && matParts P d parts.toList ps
      | none => false
    | _ => false
  | .bsl _ e ag zs len ps => match op with
    | .buildSlice t len' parts => match elemT P t with
      | some el => match tsz P el with
        | some (n, _, a) => Nat.beq n e && (a == ag) && Nat.beq len len' && (Nat.beq (len * e) 0 || zeroOk P el zs) && Nat.ble (len * e) 16777216 && Nat.beq zs.length e && Nat.ble 1 e && matIdx parts.toList ps
        | none => false
      | none => false
    | _ => false
  | .load p n ag => match op with
    | .load t x => match tsz P t with
      | some (m, _, a) => matOpd x p && Nat.beq m n && (a == ag) && (ag || Nat.beq n 1)
      | none => false
    | _ => false
  | .store p x n => match op with
    | .store t p' x' => match tsz P t with
      | some (m, _, _) => matOpd p' p && matOpd x' x && Nat.beq m n
      | none => false
    | _ => false
  | .nck x => match op with
    | .nilCheck y => matOpd y x
    | _ => false
  | .bin b x y => match op with
    | .binOp b' _ x' y' _ => decide (b' = b) && matOpd x' x && matOpd y' y
    | _ => false
  | .eqk k neg x y => match op with
    | .binOp b t x' y' _ => (match b with | .eql => !neg | .neq => neg | _ => false) && matOpd x' x && matOpd y' y &&
      (match k with
        | .nilp => (match P.underlying t with | some (.pointer _) => true | _ => false)
        | .nili => (match P.underlying t with | some (.interface ms) => ms.isEmpty | _ => false)
        | .nils => (match P.underlying t, y' with | some (.slice _), .const (.slice none 0 0) => true | _, _ => false)
        | .bools => (match P.underlying t with | some .bool => true | _ => false)
        | .cells ks => isEqT P t ks)
    | _ => false
  | .un u x => match op with
    | .unOp u' _ y => decide (u' = u) && matOpd y x
    | _ => false
  | .cvi k x => match op with
    | .convert s d y => matOpd y x && (match P.underlying s, P.underlying d with | some _, some (.int k') => decide (k' = k) | _, _ => false)
    | _ => false
  | .fad p off => match op with
    | .fieldAddr t x f => matOpd x p && (match P.underlying t with
      | some (.struct fields) => (match fields[f]? with
        | some fl => Nat.beq fl.offset off && (match tsz P fl.type with | some (n, _, _) => Nat.ble 1 n | none => false)
        | none => false)
      | _ => false)
    | _ => false
  | .ixa x i e arr => match op with
    | .indexAddr t y j => matOpd y x && matOpd j i && (match arr, P.underlying t with
      | none, some (.slice el) => (match tsz P el with | some (n, _, _) => Nat.beq n e | none => false)
      | some N, some (.array N' el) => Nat.beq N N' && (match tsz P el with | some (n, _, _) => Nat.beq n e | none => false)
      | _, _ => false)
    | _ => false
  | .slc x lo hi mx e ag => match op with
    | .slice t y l h m => matOpd y x && matOpt l lo && matOpt h hi && matOpt m mx && (match P.underlying t with
      | some (.slice el) => (match tsz P el with | some (n, _, a) => Nat.beq n e && (a == ag) | none => false) && (m.isNone || h.isSome)
      | _ => false)
    | _ => false
  | .sls x lo hi => match op with
    | .slice t y l h m => matOpd y x && matOpt l lo && matOpt h hi && m.isNone && (match P.underlying t with
      | some .string => true
      | _ => false)
    | _ => false
  | .sla x lo hi N e ag => match op with
    | .slice t y l h m => matOpd y x && matOpt l lo && matOpt h hi && m.isNone && (match P.underlying t with
      | some (.array N' el) => Nat.beq N N' && (match tsz P el with | some (n, _, a) => Nat.beq n e && (a == ag) | none => false)
      | _ => false)
    | _ => false
  | .fld x off n ag => match op with
    | .field t y f => matOpd y x && (match P.underlying t with
      | some (.struct fields) => (match fields[f]? with
        | some fl => Nat.beq fl.offset off && (match tsz P fl.type with | some (m, _, a) => Nat.beq m n && (a == ag) && (ag || Nat.beq n 1) | none => false)
        | none => false)
      | _ => false)
    | _ => false
  | .ext x i => match op with
    | .extract y j => matOpd y x && Nat.beq i j
    | _ => false
  | .call _ f _ xs => match op with
    | .call c => (match c.callee with | .value (.func g) => Nat.beq f g | _ => false) && matOpds c.args.toList xs
    | _ => false
  | .clv _ x xs => match op with
    | .call c => (match c.callee with | .value y => matOpd y x | _ => false) && matOpds c.args.toList xs
    | _ => false
  | .len x => match op with
    | .call c => (match c.callee with | .builtin .len => true | _ => false) && matOpds c.args.toList [x] && (match c.argTypes[0]? with
      | some t => (match P.underlying t with | some (.slice _) => true | _ => false)
      | none => false)
    | _ => false
  | .sln x => match op with
    | .call c => (match c.callee with | .builtin .len => true | _ => false) && matOpds c.args.toList [x] && (match c.argTypes[0]? with
      | some t => (match P.underlying t with | some .string => true | _ => false)
      | none => false)
    | _ => false
  | .app _ x y e bytes ag => match op with
    | .call c => (match c.callee with | .builtin .append => true | _ => false) && matOpds c.args.toList [x, y] && (match c.argTypes.toList with
      | [t, u] => Nat.beq t u && Nat.ble 1 e && sliceOk P t e bytes ag && (match elemT P t with | some el => (match P.info? el with | some i => i.zero.any (fun z => z.cells.size == e) | none => false) | none => false)
      | _ => false)
    | _ => false
  | .cpy x y e ag => match op with
    | .call c => (match c.callee with | .builtin .copy => true | _ => false) && matOpds c.args.toList [x, y] && (match c.argTypes.toList with
      | [t, u] => sliceOk' P t e ag && sliceOk' P u e ag
      | _ => false)
    | _ => false
  | .mn x y => match op with
    | .call c => (match c.callee with | .builtin .min => true | _ => false) && matOpds c.args.toList [x, y]
    | _ => false
  | .mx x y => match op with
    | .call c => (match c.callee with | .builtin .max => true | _ => false) && matOpds c.args.toList [x, y]
    | _ => false
  | .pan x => match op with
    | .panic y => matOpd y x
    | .call c => (match c.callee with | .builtin .panic => true | _ => false) && matOpds c.args.toList [x]
    | _ => false
  | .mki t x => match op with
    | .makeInterface u y => Nat.beq t u && matOpd y x && (match P.underlying t with | some (.interface _) => false | some _ => true | none => false)
    | _ => false
  | .mkf f first cap => match op with
    | .makeFunc fn a c => (match fn with | .func g => Nat.beq f g | _ => false) && matOpds a.toList first && matOpds c.toList cap
    | _ => false
  | .msl _ n c e bytes ag zs => match op with
    | .makeSlice t n' c' => matOpd n' n && matOpd c' c && sliceOk P t e bytes ag && Nat.beq zs.length e && Nat.ble 1 e && (match elemT P t with | some el => zeroOk P el zs | none => false)
    | _ => false
  | .fof f x => match op with
    | .call c => (match c.callee with | .value (.func g) => Nat.beq f g | _ => false) && matOpds c.args.toList [x]
    | _ => false
  | .off f x => match op with
    | .call c => (match c.callee with | .value (.func g) => Nat.beq f g | _ => false) && matOpds c.args.toList [x]
    | _ => false
  | .idx x i e N ag => match op with
    | .index t y j => matOpd y x && matOpd j i && (match P.underlying t with
      | some (.array N' el) => Nat.beq N N' && (match tsz P el with | some (m, _, a) => Nat.beq m e && (a == ag) && (ag || Nat.beq e 1) | none => false)
      | _ => false)
    | _ => false
  | .ids x i => match op with
    | .index t y j => matOpd y x && matOpd j i && (match P.underlying t with
      | some .string => true
      | _ => false)
    | _ => false
  | .clr x e zs => match op with
    | .call c => (match c.callee with | .builtin .clear => true | _ => false) && matOpds c.args.toList [x] && (match c.argTypes[0]? with
      | some t => (match elemT P t with | some el => zeroOk P el zs && Nat.beq zs.length e && Nat.ble 1 e | none => false)
      | none => false)
    | _ => false
  | .tas u x => match op with
    | .typeAssert y _ t ok => !ok && Nat.beq t u && matOpd y x && (match P.underlying t with | some (.interface _) => false | some _ => true | none => false)
    | _ => false
  | .cap x => match op with
    | .call c => (match c.callee with | .builtin .cap => true | _ => false) && matOpds c.args.toList [x] && (match c.argTypes[0]? with
      | some t => (match P.underlying t with | some (.slice _) => true | _ => false)
      | none => false)
    | _ => false
  | .nwc f xs => match op with
    | .call c => (match c.callee with | .value (.func g) => Nat.beq f g | _ => false) && matOpds c.args.toList xs
    | _ => false
  | .s2s x => match op with
    | .convert s d y => matOpd y x && (match elemT P s with
      | some el => (match P.underlying el, P.underlying d with | some (.int .u8), some .string => true | _, _ => false)
      | none => false)
    | _ => false
  | .flt b x y => match op with
    | .binOp b' _ x' y' _ => decide (b' = b) && matOpd x' x && matOpd y' y
    | _ => false
  | .bad => true
end

end Go.Mini
