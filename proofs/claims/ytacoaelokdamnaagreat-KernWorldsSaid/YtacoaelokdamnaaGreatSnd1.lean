/- Regions in the order of the text. -/
import Derived.Test.YtacoaelokdamnaaGreatCalls1
set_option linter.all false
set_option linter.unusedSimpArgs false
set_option linter.unusedVariables false
namespace Go.Mini

def matGuard (ops : List Oper) : Option (Nat × Bool) → Option (Nat × Bool) → Bool
  | none, none => true
  | some (j, b), some (t, c) => (b == c) && (match ops[j]? with
    | some o => (match o.dst with | some u => Nat.beq u t | none => false)
    | none => false)
  | _, _ => false

def matDst (nt : Nat) : Option Nat → Option Nat → Bool
  | none, none => true
  | some t, some u => Nat.beq t u && Nat.ble (t + 1) nt
  | _, _ => false

section
variable (P : Program)
def matIns (nt : Nat) (ops : List Oper) (o : Oper) (i : Ins) : Bool := matDst nt o.dst i.dst && matGuard ops o.guard i.g && matOp P o.op i.op
def matAll (nt : Nat) (ops : List Oper) : List Oper → List Ins → Bool
  | [], [] => true
  | o :: os, i :: is => matIns P nt ops o i && matAll nt ops os is
  | _, _ => false
end

variable {P : Program} {cx : Cx} {β : Beta} {M : Mem} {H : Heap} {w : World} {a : Act} {E : Env} {nt : Nat}

/-- A deferred call. -/
def DR (M : Mem) (β : Beta) : List Dfd → List Deferred → Prop
  | [], [] => True
  | x :: xs, d :: ds => (∃ cap, d.target = .fn (.func x.f) cap ∧ VT M x.args β (d.args ++ cap).toList) ∧ DR M β xs ds
  | _, _ => False

theorem DR.mono {M M' : Mem} (hM : M.le M') {β β' : Beta} (hb : β.le β') : ∀ {xs : List Dfd} {ds : List Deferred}, DR M β xs ds → DR M' β' xs ds
  | [], [], _ => trivial
  | x :: xs, d :: ds, h => by
    obtain ⟨⟨cap, h1, h2⟩, h3⟩ := h
    exact ⟨⟨cap, h1, VT_mono hM _ hb h2⟩, DR.mono hM hb h3⟩
  | [], _ :: _, h => h.elim
  | _ :: _, [], h => h.elim

/-- The temporaries and the deferred calls. -/
structure AR (nt : Nat) (M : Mem) (β : Beta) (a : Act) (E : Env) (df : List Dfd) : Prop where
  sz : nt ≤ a.tmps.size
  er : ∀ t d, look t E = some d → VV M β d (a.tmps.getD t undef)
  df : DR M β df a.defers

theorem AR.mono {M M' : Mem} (hM : M.le M') {β β' : Beta} (hb : β.le β') {df : List Dfd} (h : AR nt M β a E df) : AR nt M' β' a E df :=
  ⟨h.sz, fun t d ht => (h.er t d ht).mono hM hb, h.df.mono hM hb⟩

theorem AR.he {df : List Dfd} (h : AR nt M β a E df) (S : List Nat) : HE M β a E S := fun t d _ ht => h.er t d ht

theorem look_put_same (t : Nat) (d : D) (E : Env) : look t ((t, d) :: E) = some d := by simp [look]
theorem look_put_other {t u : Nat} (d : D) (E : Env) (h : t ≠ u) : look t ((u, d) :: E) = look t E := by
  have : Nat.beq t u = false := by
    cases h' : Nat.beq t u
    · rfl
    · exact absurd (Nat.eq_of_beq_eq_true h') h
  simp [look, this]

theorem put_tmps (a : Act) (dst : Option Tmp) (v : Value) : (a.put dst v).tmps.size = a.tmps.size := by cases dst <;> simp [Act.put]
theorem put_defers (a : Act) (dst : Option Tmp) (v : Value) : (a.put dst v).defers = a.defers := by cases dst <;> rfl
theorem put_getD_same (a : Act) (t : Nat) (v : Value) (h : t < a.tmps.size) : (a.put (some t) v).tmps.getD t undef = v := by simp [Act.put, h]
theorem put_getD_other (a : Act) {t : Nat} (dst : Option Nat) (v : Value) (h : dst ≠ some t) : (a.put dst v).tmps.getD t undef = a.tmps.getD t undef := by
  cases dst with
  | none => rfl
  | some u =>
    have : u ≠ t := fun e => h (by rw [e])
    simp [Act.put, Array.getElem?_setIfInBounds_ne this]

theorem AR.put {df : List Dfd} (h : AR nt M β a E df) {dst dst' : Option Nat} (hm : matDst nt dst dst' = true) {d : D} {v : Value} (hv : VV M β d v) : AR nt M β (a.put dst v) (putD dst' d E) df := by
  refine ⟨by rw [put_tmps]; exact h.sz, ?_, by rw [put_defers]; exact h.df⟩
  unfold matDst at hm
  split at hm
  · exact h.er
  · rename_i t u
    simp only [Bool.and_eq_true] at hm
    obtain rfl := Nat.eq_of_beq_eq_true hm.1
    have hlt := Nat.le_of_ble_eq_true hm.2
    intro s e hs
    simp only [putD] at hs
    by_cases hst : s = t
    · subst hst
      rw [look_put_same] at hs
      cases hs
      rw [put_getD_same a s v (Nat.lt_of_lt_of_le hlt h.sz)]
      exact hv
    · rw [look_put_other d E hst] at hs
      rw [put_getD_other a (some t) v (fun e => hst (by cases e; rfl))]
      exact h.er s e hs
  · cases hm

theorem VV_undef : VV M β (.tup []) undef := by
  refine ⟨rfl, ?_⟩
  simp only [VF, VT, Value.cells, undef]
  exact ⟨#[], rfl, rfl⟩

/-- A value that is a bool of the machine's is one of the interpreter's. -/
theorem VV_bool_inv {d : D} {c : Bool} (h : VV M β d (.bool c)) : d = .s (.bool c) := by
  have h2 := h.2
  cases d <;> simp only [VF, Value.cells, List.cons.injEq, and_true] at h2
  case s u => rw [h2.1]
  case agg xs => have := h.1; simp [vAgg, D.isAgg] at this
  case tup => obtain ⟨_, h, _⟩ := h2; cases h
  case lit => obtain ⟨_, _, _, h, _⟩ := h2; cases h
  case rp => obtain ⟨_, _, _, _, _, h, _⟩ := h2; cases h
  case sl => obtain ⟨_, _, _, _, h, _⟩ := h2; cases h
  case ptr => obtain ⟨_, _, _, h, _⟩ := h2; cases h
  case fn => obtain ⟨_, _, h, _⟩ := h2; cases h
  case ifc => obtain ⟨_, h, _⟩ := h2; cases h
  case mp => obtain ⟨_, _, _, h, _⟩ := h2; cases h
  case unk u p => obtain ⟨n, h, _⟩ := h2; cases u <;> cases h

/-- Whether an operation's guard lets it by. -/
theorem wants_ok {ops : Array Oper} {o : Oper} {g' : Option (Nat × Bool)} {b : Bool} (hm : matGuard ops.toList o.guard g' = true) (he : ∀ t c d, g' = some (t, c) → look t E = some d → VV M β d (a.tmps.getD t undef)) (h : wants g' E = some b) :
    Region.wanted o (yielded ops a.tmps) = b := by
  unfold matGuard at hm
  split at hm
  · rename_i hg
    simp only [wants, Option.some.injEq] at h
    subst h
    simp only [Region.wanted, hg]
  · rename_i j c t c' hg
    simp only [Bool.and_eq_true, beq_iff_eq] at hm
    obtain ⟨rfl, h2⟩ := hm
    split at h2
    · rename_i o ho
      split at h2
      · rename_i u hu
        obtain rfl := Nat.eq_of_beq_eq_true h2
        simp only [wants] at h
        have ho' : ops[j]? = some o := by simpa using ho
        simp only [Region.wanted, hg, yielded, ho', Option.bind_some, hu]
        split at h
        · cases h
        · rename_i cc hl
          cases h
          have hv := (VV_s_inv (he u c _ rfl hl)).1
          by_cases hlt : u < a.tmps.size
          · have : a.tmps[u]? = some (.bool cc) := by
              simp only [Array.getD_eq_getD_getElem?] at hv
              rw [Array.getElem?_eq_getElem hlt] at hv ⊢
              simpa using hv
            simp only [this]
            cases cc <;> cases c <;> rfl
          · exfalso
            simp [Array.getD_eq_getD_getElem?, Array.getElem?_eq_none (Nat.le_of_not_lt hlt), undef] at hv
        · rename_i dd hnb hl
          cases h
          have hv := he u c dd rfl hl
          by_cases hlt : u < a.tmps.size
          · simp only [Array.getElem?_eq_getElem hlt]
            have hv' : VV M β dd a.tmps[u] := by simpa [Array.getD_eq_getD_getElem?, Array.getElem?_eq_getElem hlt] using hv
            split
            · rename_i bb hbb
              simp only [Option.some.injEq] at hbb
              rw [hbb] at hv'
              exact absurd (VV_bool_inv hv') (hnb bb)
            · rfl
          · simp [Array.getElem?_eq_none (Nat.le_of_not_lt hlt)]
      · cases h2
    · cases h2
  · cases hm

/-- What is owed behind a run of operations. -/
def RiOk (nt : Nat) (β : Beta) (M : Mem) (H : Heap) (w : World) (df : List Dfd) (K : Act → World → Prop) (Q : Exit → Act → World → Prop) : Ri → Prop
  | .ok E' H' => ∀ β' M' a' w', Step H β M w H' β' M' w' → Inv β' M' H' w' → AR nt M' β' a' E' df → K a' w'
  | .pan d E' H' => ∀ β' M' a' w' v, Step H β M w H' β' M' w' → Inv β' M' H' w' → AR nt M' β' a' E' df → VV M' β' d v → Q (.panic [{ v, recovered := false }]) a' w'
  | .no => False

theorem RiOk.step {H1 : Heap} {β1 : Beta} {M1 : Mem} {w1 : World} {df : List Dfd} {K : Act → World → Prop} {Q : Exit → Act → World → Prop} {r : Ri} (hs : Step H β M w H1 β1 M1 w1)
    (h : RiOk nt β M H w df K Q r) : RiOk nt β1 M1 H1 w1 df K Q r := by
  cases r with
  | ok E' H' => exact fun β' M' a' w' s i r => h β' M' a' w' (hs.trans s) i r
  | pan d E' H' => exact fun β' M' a' w' v s i r hv => h β' M' a' w' v (hs.trans s) i r hv
  | no => exact h

theorem wpOps_cons' {ops : Array Oper} {Q : Exit → Act → World → Prop} {i : Nat} {rest : List Nat} {o : Oper} (ho : ops[i]? = some o) (b : Bool) (hw : Region.wanted o (yielded ops a.tmps) = b)
    (h : match b with | true => o.wp P a w (wpOps P ops Q rest) Q | false => wpOps P ops Q rest (a.put o.dst undef) w) : wpOps P ops Q (i :: rest) a w := by
  simp only [wpOps, ho, hw]
  cases b
  · simpa using h
  · simpa using Or.inl h

theorem seq_ok (hcx : CxOK P cx) {ops : Array Oper} {rest : List Nat} {Q : Exit → Act → World → Prop} {df : List Dfd} : ∀ (l : List Oper) (ins : List Ins) (n : Nat) (E : Env) (H : Heap) (β : Beta) (M : Mem) (w : World) (a : Act),
    matAll P nt ops.toList l ins = true → (∀ i o, l[i]? = some o → ops[n + i]? = some o) → Inv β M H w → AR nt M β a E df →
    RiOk nt β M H w df (wpOps P ops Q rest) Q (runIns cx ins E H) → wpOps P ops Q (List.range' n l.length ++ rest) a w
  | [], [], n, E, H, β, M, w, a, hm, hl, hi, ha, h => by
    simp only [runIns, RiOk] at h
    simpa using h β M a w (Step.refl ..) hi ha
  | [], _ :: _, _, _, _, _, _, _, _, hm, _, _, _, _ => by simp [matAll] at hm
  | _ :: _, [], _, _, _, _, _, _, _, hm, _, _, _, _ => by simp [matAll] at hm
  | o :: l, i :: ins, n, E, H, β, M, w, a, hm, hl, hi, ha, h => by
    simp only [matAll, matIns, Bool.and_eq_true] at hm
    obtain ⟨⟨⟨h1, h2⟩, h3⟩, h4⟩ := hm
    have ho : ops[n]? = some o := by simpa using hl 0 o rfl
    have hl' : ∀ j o', l[j]? = some o' → ops[n + 1 + j]? = some o' := fun j o' hj => by
      have := hl (j + 1) o' (by simpa using hj)
      rwa [Nat.add_assoc, Nat.add_comm 1 j]
    simp only [List.length_cons, List.range'_succ, List.cons_append]
    simp only [runIns] at h
    split at h
    · exact h.elim
    · rename_i hw
      refine wpOps_cons' ho false (wants_ok h2 (fun t c d _ ht => ha.er t d ht) hw) ?_
      exact seq_ok hcx l ins (n + 1) _ H β M w _ h4 hl' hi (ha.put h1 VV_undef) h
    · rename_i hw
      refine wpOps_cons' ho true (wants_ok h2 (fun t c d _ ht => ha.er t d ht) hw) ?_
      have hop := iev_ok (o := o) (a := a) (E := E) hcx h3 hi (ha.he _)
      split at h
      · rename_i d H' he
        rw [he] at hop
        refine hop _ _ ?_
        intro v β' M' w' q1 q2 q3
        exact seq_ok hcx l ins (n + 1) _ H' β' M' w' _ h4 hl' q2 ((ha.mono q1.ml q1.bl).put h1 q3) (h.step q1)
      · rename_i d H' he
        rw [he] at hop
        refine hop _ _ ?_
        intro v β' M' w' q1 q2 q3
        exact h β' M' a w' v q1 q2 (ha.mono q1.ml q1.bl) q3
      · exact h.elim

end Go.Mini
