/- Functions. -/
import Derived.Test.YtacoaelokdamnaaGreatSnd6
import Derived.Recover
import Derived.Tactics
set_option linter.all false
set_option linter.unusedSimpArgs false
set_option linter.unusedVariables false
namespace Go.Mini

section
variable (P : Program)
def matRes : List ResultVar → List ResD → Bool
  | [], [] => true
  | .tmp t :: r, .t n :: s => Nat.beq t n && matRes r s
  | .cell a t :: r, .c n sz ag :: s => Nat.beq a n && (match tsz P t with
    | some (m, _, a') => Nat.beq m sz && (a' == ag) && (ag || Nat.beq sz 1)
    | none => false) && matRes r s
  | _, _ => false

def matRcv : List Oper → Nat → Nat → Nat → Bool
  | [o1, o2], t0, t1, nt => o1.guard.isNone && o2.guard.isNone && matDst nt o1.dst (some t0) && matDst nt o2.dst (some t1) && !Nat.beq t0 t1 &&
    (match o1.op with | .call c => (match c.callee with | .builtin .recover => c.args.isEmpty | _ => false) | _ => false) &&
    (match o2.op with | .assign (.tmp t) => Nat.beq t t0 | _ => false)
  | _, _, _, _ => false

def matBody (fn : Func) (c : Code) (ir : FnIR) : Bool :=
  match ir.rcv with
  | none => matCode P ir.nt c ir.body
  | some (t0, t1) => fn.results.isEmpty && (match c with
    | .seq (.region _ ops false) rest => matRcv ops.toList t0 t1 ir.nt && matCode P ir.nt rest ir.body
    | _ => false)

def matFn (fn : Func) (ir : FnIR) : Bool :=
  match fn.body with
  | some c => (fn.name != "runtime.NumGoroutine") && Nat.beq fn.ntmps ir.nt && matRes P fn.results.toList ir.res && matBody P fn c ir
  | none => false
end

variable {P : Program} {cx : Cx} {nt : Nat} {df : List Dfd}
variable {a : Act} {w : World} {β : Beta} {M : Mem} {H : Heap} {E : Env}

theorem VT_nth {M : Mem} {β : Beta} : ∀ {ds : List D} {vs : List Value} {j : Nat} {d : D}, VT M ds β vs → ds[j]? = some d → ∃ v, vs[j]? = some v ∧ VV M β d v
  | [], _, j, d, _, h => by simp at h
  | x :: xs, l, j, d, hv, h => by
    simp only [VT] at hv
    obtain ⟨v, r, rfl, h1, h2, h3⟩ := hv
    cases j with
    | zero => simp at h; subst h; exact ⟨v, rfl, h1, h2⟩
    | succ j =>
      obtain ⟨u, h4, h5⟩ := VT_nth h3 (by simpa using h)
      exact ⟨u, by simpa using h4, h5⟩

theorem look_argEnv : ∀ {ds : List D} {i t : Nat} {d : D}, look t (argEnv i ds) = some d → ∃ j, t = i + j ∧ ds[j]? = some d
  | [], i, t, d, h => by simp [argEnv, look] at h
  | x :: xs, i, t, d, h => by
    simp only [argEnv, look] at h
    split at h
    · rename_i hb
      obtain rfl := Nat.eq_of_beq_eq_true hb
      cases h
      exact ⟨0, rfl, rfl⟩
    · obtain ⟨j, h1, h2⟩ := look_argEnv h
      exact ⟨j + 1, by omega, by simpa using h2⟩

theorem args_AR {ds : List D} {vs : List Value} {n : Nat} (hv : VT M ds β vs) (hn : nt ≤ n) : AR nt M β { tmps := vs.toArray ++ Array.replicate (n - vs.toArray.size) undef, defers := [] } (argEnv 0 ds) [] := by
  refine ⟨by simp; omega, ?_, trivial⟩
  intro t d h
  obtain ⟨j, rfl, h2⟩ := look_argEnv h
  obtain ⟨v, h3, h4⟩ := VT_nth hv h2
  have hlt : j < vs.length := (List.getElem?_eq_some_iff.1 h3).1
  have : (vs.toArray ++ Array.replicate (n - vs.toArray.size) undef).getD (0 + j) undef = v := by
    have h5 : vs.toArray[j]? = some v := by simpa using h3
    simp only [Nat.zero_add, Array.getD_eq_getD_getElem?]
    rw [Array.getElem?_append_left (by simpa using hlt), h5]
    rfl
  simp only
  rw [this]
  exact h4

/-! ### Results -/
def resSem (tmps : Array Value) : ResultVar → Sem Value
  | .tmp t => pure (tmps.getD t undef)
  | .cell a t => do loadVar t (← asAddr (tmps.getD a undef))

theorem results_eq (fn : Func) (tmps : Array Value) : results fn tmps = (do
    let vs ← fn.results.mapM (resSem tmps)
    pure (if h : vs.size = 1 then vs[0] else .tuple vs)) := by
  unfold results
  congr 1

theorem loadAt_asAddr {t : TypeId} {v u : Value} (h : (Instr.loadAt t v).run P w = .ok u w) : (do loadVar t (← asAddr v)).run P w = .ok u w := by
  unfold Instr.loadAt at h
  cases v <;> simp only [Instr.sureAddr, Sem.run_bind] at h <;> try (simp [stuck, Sem.run] at h; done)
  rename_i a
  cases a with
  | none => simp [stuck, Sem.run] at h
  | some a => simpa [asAddr] using h

theorem res_one {tmps : Array Value} (hi : Inv β M H w) (he : ∀ t d, look t E = some d → VV M β d (tmps.getD t undef)) {r : ResultVar} {x : ResD} (hm : matRes P [r] [x] = true) {d : D} (hd : resOf E H x = some d) :
    ∃ v, (resSem tmps r).run P w = .ok v w ∧ VV M β d v := by
  cases r with
  | tmp t =>
    cases x with
    | t n =>
      simp only [matRes, Bool.and_eq_true] at hm
      obtain rfl := Nat.eq_of_beq_eq_true hm.1
      simp only [resOf] at hd
      exact ⟨_, by simp [resSem], he _ _ hd⟩
    | c n sz ag => simp [matRes] at hm
  | cell a t =>
    cases x with
    | t n => simp [matRes] at hm
    | c n sz ag =>
      simp only [matRes, Bool.and_eq_true, and_true] at hm
      obtain ⟨h1, h2⟩ := hm
      obtain rfl := Nat.eq_of_beq_eq_true h1
      split at h2
      · rename_i m b a' ht
        simp only [Bool.and_eq_true, Bool.or_eq_true, beq_iff_eq] at h2
        obtain ⟨⟨h3, rfl⟩, h4⟩ := h2
        obtain rfl := Nat.eq_of_beq_eq_true h3
        simp only [resOf] at hd
        split at hd
        · rename_i p hp
          obtain ⟨u, h5, h6⟩ := run_ldp (P := P) hi ht (fun h => by rcases h4 with h4 | h4; · rw [h] at h4; cases h4
                                                                    · exact Nat.eq_of_beq_eq_true h4) (he _ _ hp) hd
          exact ⟨u, loadAt_asAddr h5, h6⟩
        · cases hd
      · cases h2

theorem matRes_cons {r : ResultVar} {x : ResD} {rs : List ResultVar} {xs : List ResD} (h : matRes P (r :: rs) (x :: xs) = true) : matRes P [r] [x] = true ∧ matRes P rs xs = true := by
  cases r <;> cases x <;> simp only [matRes, Bool.and_eq_true] at h ⊢
  · exact ⟨⟨h.1, trivial⟩, h.2⟩
  · cases h
  · cases h
  · exact ⟨⟨h.1, trivial⟩, h.2⟩

theorem res_list {tmps : Array Value} (hi : Inv β M H w) (he : ∀ t d, look t E = some d → VV M β d (tmps.getD t undef)) : ∀ {rs : List ResultVar} {xs : List ResD}, matRes P rs xs = true → ∀ {ds : List D}, resList E H xs = some ds →
    ∃ vs, (rs.mapM (resSem tmps)).run P w = .ok vs w ∧ VT M ds β vs ∧ rs.length = xs.length
  | [], [], _, ds, hd => by
    simp only [resList, Option.some.injEq] at hd
    subst hd
    exact ⟨[], by simp, by simp [VT], rfl⟩
  | r :: rs, x :: xs, hm, ds, hd => by
    obtain ⟨h1, h2⟩ := matRes_cons hm
    simp only [resList] at hd
    split at hd
    · cases hd
    · rename_i d hd1
      split at hd
      · cases hd
      · rename_i ds' hd2
        cases hd
        obtain ⟨v, h3, h4⟩ := res_one hi he h1 hd1
        obtain ⟨vs, h5, h6, h7⟩ := res_list hi he h2 hd2
        refine ⟨v :: vs, by simp [List.mapM_cons, h3, h5], ?_, by simp [h7]⟩
        simp only [VT]
        exact ⟨v, vs, rfl, h4.1, h4.2, h6⟩
  | [], x :: xs, hm, ds, hd => by simp [matRes] at hm
  | r :: rs, [], hm, ds, hd => by cases r <;> simp [matRes] at hm

theorem res_val {fn : Func} {tmps : Array Value} {rs : List ResD} (hi : Inv β M H w) (he : ∀ t d, look t E = some d → VV M β d (tmps.getD t undef)) (hm : matRes P fn.results.toList rs = true) {d : D} (hd : resVal E H rs = some d) :
    ∃ v, (results fn tmps).run P w = .ok v w ∧ VV M β d v := by
  have hrun : ∀ vs, (fn.results.toList.mapM (resSem tmps)).run P w = .ok vs w → (results fn tmps).run P w = .ok (if h : vs.toArray.size = 1 then vs.toArray[0] else .tuple vs.toArray) w := by
    intro vs h
    rw [results_eq]
    simp only [Sem.run_bind, Array.mapM_eq_mapM_toList, Sem.run_map, h, Result.andThen_ok, Sem.run_pure]
  unfold resVal at hd
  split at hd
  · rename_i r
    have hl : resList E H [r] = some [d] := by simp [resList, hd]
    obtain ⟨vs, h1, h2, h3⟩ := res_list hi he hm hl
    simp only [VT] at h2
    obtain ⟨v, l, rfl, h4, h5, rfl⟩ := h2
    refine ⟨v, ?_, h4, h5⟩
    rw [hrun _ h1]
    simp
  · rename_i hne
    split at hd
    · rename_i ds hds
      cases hd
      obtain ⟨vs, h1, h2, h3⟩ := res_list hi he hm hds
      have hlen : ∀ {xs : List ResD} {ds : List D}, resList E H xs = some ds → ds.length = xs.length := by
        intro xs
        induction xs with
        | nil => intro ds h; simp only [resList, Option.some.injEq] at h; subst h; rfl
        | cons x xs ih =>
          intro ds h
          simp only [resList] at h
          split at h
          · cases h
          · split at h
            · cases h
            · rename_i ds' h'
              cases h
              simp [ih h']
      have hvl : ∀ {ds : List D} {vs : List Value}, VT M ds β vs → vs.length = ds.length := by
        intro ds
        induction ds with
        | nil => intro vs h; simp only [VT] at h; subst h; rfl
        | cons x xs ih => intro vs h; simp only [VT] at h; obtain ⟨v, r, rfl, _, _, h⟩ := h; simp [ih h]
      have h1' : ¬ vs.toArray.size = 1 := by
        intro h
        have h : vs.length = 1 := by simpa using h
        rw [hvl h2, hlen hds] at h
        match rs, h with
        | [r], _ => exact hne r rfl
      refine ⟨.tuple vs.toArray, ?_, rfl, ?_⟩
      · rw [hrun _ h1, dif_neg h1']
      · simp only [VF, Value.cells]
        exact ⟨vs.toArray, rfl, by simpa using h2⟩
    · cases hd

end Go.Mini
