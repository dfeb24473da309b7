/- The values of a small abstract interpreter of Go code, and how they stand for the machine's values. -/
import Derived.Calls
import Derived.Orders
import Derived.Defers
set_option linter.all false
namespace Go.Mini

/-- What is known of a literal slice's room: none to spare; unknown; it may be the memory of a live block; the nil slice; nothing; none to spare, or nil. -/
inductive LK where
  | exact | spare | bor | nil | any | ful
  deriving DecidableEq, Repr

inductive D where
  | s (v : Value)
  | agg (xs : List D)
  | tup (xs : List D)
  | lit (k : LK) (xs : List D)
  | rp (bor : Bool) (x : D) (off : Nat)
  | sl (b off n esz : Nat) (ag : Bool) (cp : Option Nat)
  | ptr (b off : Nat)
  | fn (f : FuncId) (first cap : List D)
  | ifc (t : TypeId) (x : D)
  | mp (b : Nat)
  | unk (u : Bool) (p : Nat → Prop)  -- some bits of which that is known, as a float or a whole number
  deriving Inhabited

def D.flat : D → List D
  | .agg xs => xs
  | x => [x]

def D.isAgg : D → Bool
  | .agg _ => true
  | _ => false

def vAgg : Value → Bool
  | .agg _ => true
  | _ => false

/-- Bits, as a float or a whole number. -/
def bitsV (u : Bool) (n : Nat) : Value := match u with | false => .float .f64 n | true => .int .u64 n
theorem bitsV_ok (u : Bool) (n : Nat) : vAgg (bitsV u n) = false := by cases u <;> rfl

/-- Values without memory behind them. -/
def atom : Value → Bool
  | .bool _ | .int .. | .float .. | .string _ | .pointer none | .nilFunc | .nilIface | .map none => true
  | _ => false

/-- Where an abstract block stands: the machine's block, the shift, and how many cells the machine's block has. -/
abbrev Beta := Nat → Option (Nat × Nat × Nat)
def nob : Beta := fun _ => none
/-- The machine's blocks that never change: whether one may be the memory of somebody's live block; its cells. -/
abbrev Mem := Nat → Option (Bool × Array Value)

/-- A literal slice's pointer, length and room. -/
def LKok (k : LK) (a : Option Addr) (n c : Nat) : Prop :=
  match k with
  | .exact => c = n ∧ a ≠ none
  | .nil => a = none ∧ c = 0
  | .spare => a ≠ none
  | .bor => a = none → c = 0
  | .any => a = none → c = 0
  | .ful => c = n ∧ (a = none → c = 0)

mutual
/-- The cells of a value. -/
def VF (M : Mem) : D → Beta → List Value → Prop
  | .s v, _, l => l = [v] ∧ atom v = true
  | .agg xs, β, l => l.length = xs.length ∧ VE M xs β 1 l
  | .tup xs, β, l => ∃ vs, l = [.tuple vs] ∧ VT M xs β vs.toList
  | .lit k xs, _, l => ∃ a n c, l = [.slice a n c] ∧ n = xs.length ∧ n ≤ c ∧ LKok k a n c ∧
      (xs = [] ∨ ∃ blk off e bo cs, a = some ⟨blk, off, none⟩ ∧ M blk = some (bo, cs) ∧ (bo = true → k = .bor) ∧ off + n * e ≤ cs.size ∧ VE M xs nob e (cs.toList.drop off))
  | .rp bo x o, _, l => ∃ blk off bo' cs e, l = [.pointer (some ⟨blk, off + o, none⟩)] ∧ M blk = some (bo', cs) ∧ (bo' = true → bo = true) ∧
      off + e ≤ cs.size ∧ x.flat.length = e ∧ VF M x nob ((cs.toList.drop off).take e)
  | .sl b off n esz _ cp, β, l => ∃ blk sh C c, l = [.slice (some ⟨blk, sh + off, none⟩) n c] ∧ β b = some (blk, sh, C) ∧ sh + off + c * esz ≤ C ∧
      (cp = none → sh + off + c * esz = C) ∧ (∀ k, cp = some k → c = k) ∧ n ≤ c ∧ 0 < esz
  | .ptr b off, β, l => ∃ blk sh C, l = [.pointer (some ⟨blk, sh + off, none⟩)] ∧ β b = some (blk, sh, C)
  | .fn f first cap, β, l => ∃ vs ws, l = [.func (.func f) vs ws] ∧ VT M first β vs.toList ∧ VT M cap β ws.toList
  | .ifc t x, β, l => ∃ v, l = [.iface t v] ∧ vAgg v = x.isAgg ∧ VF M x β v.cells.toList
  | .mp b, β, l => ∃ blk sh C, l = [.map (some blk)] ∧ β b = some (blk, sh, C)
  | .unk u p, _, l => ∃ n, l = [bitsV u n] ∧ p n
/-- Elements of e cells each, one behind the other. -/
def VE (M : Mem) : List D → Beta → Nat → List Value → Prop
  | [], _, _, _ => True
  | x :: xs, β, e, l => e ≤ l.length ∧ x.flat.length = e ∧ VF M x β (l.take e) ∧ VE M xs β e (l.drop e)
/-- Values, one for each. -/
def VT (M : Mem) : List D → Beta → List Value → Prop
  | [], _, l => l = []
  | x :: xs, β, l => ∃ v r, l = v :: r ∧ vAgg v = x.isAgg ∧ VF M x β v.cells.toList ∧ VT M xs β r
end

/-- A value stands for a machine's value. -/
def VV (M : Mem) (β : Beta) (x : D) (v : Value) : Prop := vAgg v = x.isAgg ∧ VF M x β v.cells.toList

def Mem.le (M M' : Mem) : Prop := ∀ blk c, M blk = some c → M' blk = some c
def Beta.le (β β' : Beta) : Prop := ∀ b c, β b = some c → β' b = some c

mutual
theorem VF_mono {M M' : Mem} (hM : M.le M') : ∀ (x : D) {β β' : Beta} (_ : β.le β') {l : List Value}, VF M x β l → VF M' x β' l
  | .s v, _, _, _, _, h => by simpa only [VF] using h
  | .agg xs, _, _, hb, _, h => by
    simp only [VF] at h ⊢
    exact ⟨h.1, VE_mono hM xs hb h.2⟩
  | .tup xs, _, _, hb, _, h => by
    simp only [VF] at h ⊢
    obtain ⟨vs, rfl, h⟩ := h
    exact ⟨vs, rfl, VT_mono hM xs hb h⟩
  | .lit k xs, _, _, _, _, h => by
    simp only [VF] at h ⊢
    obtain ⟨a, n, c, h1, h2, h3, h4, h5⟩ := h
    refine ⟨a, n, c, h1, h2, h3, h4, ?_⟩
    rcases h5 with h5 | ⟨blk, off, e, bo, cs, g1, g2, g3, g4, g5⟩
    · exact .inl h5
    · exact .inr ⟨blk, off, e, bo, cs, g1, hM _ _ g2, g3, g4, VE_mono hM xs (fun _ _ h => h) g5⟩
  | .rp bo x o, _, _, _, _, h => by
    simp only [VF] at h ⊢
    obtain ⟨blk, off, bo', cs, e, h1, h2, h3, h4, h5, h6⟩ := h
    exact ⟨blk, off, bo', cs, e, h1, hM _ _ h2, h3, h4, h5, VF_mono hM x (fun _ _ h => h) h6⟩
  | .sl b off n esz _ _, _, _, hb, _, h => by
    simp only [VF] at h ⊢
    obtain ⟨blk, sh, C, c, h1, h2, h3⟩ := h
    exact ⟨blk, sh, C, c, h1, hb _ _ h2, h3⟩
  | .ptr b off, _, _, hb, _, h => by
    simp only [VF] at h ⊢
    obtain ⟨blk, sh, C, h1, h2⟩ := h
    exact ⟨blk, sh, C, h1, hb _ _ h2⟩
  | .fn f first cap, _, _, hb, _, h => by
    simp only [VF] at h ⊢
    obtain ⟨vs, ws, h1, h2, h3⟩ := h
    exact ⟨vs, ws, h1, VT_mono hM first hb h2, VT_mono hM cap hb h3⟩
  | .ifc t x, _, _, hb, _, h => by
    simp only [VF] at h ⊢
    obtain ⟨v, h1, h2, h3⟩ := h
    exact ⟨v, h1, h2, VF_mono hM x hb h3⟩
  | .mp b, _, _, hb, _, h => by
    simp only [VF] at h ⊢
    obtain ⟨blk, sh, C, h1, h2⟩ := h
    exact ⟨blk, sh, C, h1, hb _ _ h2⟩
  | .unk u p, _, _, _, _, h => by simpa only [VF] using h
theorem VE_mono {M M' : Mem} (hM : M.le M') : ∀ (xs : List D) {β β' : Beta} (_ : β.le β') {e : Nat} {l : List Value}, VE M xs β e l → VE M' xs β' e l
  | [], _, _, _, _, _, _ => by simp only [VE]
  | x :: xs, _, _, hb, _, _, h => by
    simp only [VE] at h ⊢
    exact ⟨h.1, h.2.1, VF_mono hM x hb h.2.2.1, VE_mono hM xs hb h.2.2.2⟩
theorem VT_mono {M M' : Mem} (hM : M.le M') : ∀ (xs : List D) {β β' : Beta} (_ : β.le β') {l : List Value}, VT M xs β l → VT M' xs β' l
  | [], _, _, _, _, h => by simpa only [VT] using h
  | x :: xs, _, _, hb, _, h => by
    simp only [VT] at h ⊢
    obtain ⟨v, r, h1, h2, h3, h4⟩ := h
    exact ⟨v, r, h1, h2, VF_mono hM x hb h3, VT_mono hM xs hb h4⟩
end

theorem VV.mono {M M' : Mem} (hM : M.le M') {β β' : Beta} (hb : β.le β') {x : D} {v : Value} (h : VV M β x v) : VV M' β' x v := ⟨h.1, VF_mono hM x hb h.2⟩
theorem Mem.le_refl (M : Mem) : M.le M := fun _ _ h => h
theorem Beta.le_refl (β : Beta) : β.le β := fun _ _ h => h
theorem Mem.le_trans {M M' M'' : Mem} (h : M.le M') (k : M'.le M'') : M.le M'' := fun _ _ x => k _ _ (h _ _ x)
theorem Beta.le_trans {M M' M'' : Beta} (h : M.le M') (k : M'.le M'') : M.le M'' := fun _ _ x => k _ _ (h _ _ x)
theorem nob_le (β : Beta) : nob.le β := fun _ _ h => by simp [nob] at h

end Go.Mini
