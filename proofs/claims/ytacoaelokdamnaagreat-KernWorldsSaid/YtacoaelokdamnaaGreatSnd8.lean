/- Deferred calls; a function's run; the table. -/
import Derived.Test.YtacoaelokdamnaaGreatSnd7
set_option linter.all false
set_option linter.unusedSimpArgs false
set_option linter.unusedVariables false
namespace Go.Mini

variable {P : Program} {cx : Cx} {nt : Nat} {df : List Dfd}
variable {a : Act} {w : World} {β : Beta} {M : Mem} {H : Heap} {E : Env}

/-- Every function of the table is the program's. -/
def TblOK (P : Program) (tbl : Nat → Option FnIR) : Prop := ∀ g ir, tbl g = some ir → ∃ fn, P.funcs[g]? = some fn ∧ matFn P fn ir = true

theorem matFn_spec {fn : Func} {ir : FnIR} (h : matFn P fn ir = true) : ∃ c, fn.body = some c ∧ fn.name ≠ "runtime.NumGoroutine" ∧ fn.ntmps = ir.nt ∧ matRes P fn.results.toList ir.res = true ∧ matBody P fn c ir = true := by
  unfold matFn at h
  split at h
  · rename_i c hc
    simp only [Bool.and_eq_true, bne_iff_ne, ne_eq] at h
    exact ⟨c, hc, h.1.1.1, Nat.eq_of_beq_eq_true h.1.1.2, h.1.2, h.2⟩
  · cases h

theorem matFn_callable {f : FuncId} {fn : Func} {ir : FnIR} (hf : P.funcs[f]? = some fn) (h : matFn P fn ir = true) : callable P f := by
  obtain ⟨c, h1, h2, _⟩ := matFn_spec h
  exact ⟨fn, hf, by simp [h1], h2⟩

def ModeR (M : Mem) (β : Beta) (m : Option D) (u : FrameMode) : Prop :=
  match m with
  | none => u = .returning
  | some d => ∃ v, u = .panicking [{ v, recovered := false }] ∧ VV M β d v

theorem ModeR.mono {M M' : Mem} (hM : M.le M') {β β' : Beta} (hb : β.le β') {m : Option D} {u : FrameMode} (h : ModeR M β m u) : ModeR M' β' m u := by
  cases m with
  | none => exact h
  | some d =>
    obtain ⟨v, h1, h2⟩ := h
    exact ⟨v, h1, h2.mono hM hb⟩

/-- What recover() gives. -/
theorem recover_ok {m : Option D} {u : FrameMode} {c₀ : Frame} {cs : List Frame} (hm : ModeR M β m u) (hu : c₀.mode = u) :
    (∃ v u', recoverD (c₀ :: cs) = some (v, { c₀ with mode := u' } :: cs) ∧ VV M β (rcvD m) v ∧ settle u' = .returning ∧ u' ≠ .run) ∨
    (recoverD (c₀ :: cs) = none ∧ VV M β (rcvD m) .nilIface ∧ settle u = .returning ∧ u ≠ .run) := by
  cases m with
  | none =>
    simp only [ModeR] at hm
    subst hm
    refine .inr ⟨by simp [recoverD, hu], VV_s rfl M β, rfl, by simp⟩
  | some d =>
    obtain ⟨v, rfl, hv⟩ := hm
    refine .inl ⟨v, .panicking [{ v, recovered := true }], by simp [recoverD, hu], hv, ?_, by simp⟩
    simp [settle]

theorem ModeR.ne_run {m : Option D} {u : FrameMode} (h : ModeR M β m u) : u ≠ .run := by
  cases m with
  | none => simp only [ModeR] at h; subst h; simp
  | some d => obtain ⟨v, rfl, _⟩ := h; simp

theorem exec_recover {o : Oper} {c : Call} (ho : o.op = .call c) (hc : c.callee = .builtin .recover) (ha : c.args = #[]) : (execOp a.eval o).run P w = .ok .recover w := by
  obtain ⟨dst, op, ty, pos, after, guard⟩ := o
  obtain ⟨callee, args, argTypes⟩ := c
  simp only at ho hc ha
  subst ho hc ha
  simp [execOp, resolve, invoke, Deferred.ofValue, builtin]

theorem matRcv_two {t0 t1 nt : Nat} : ∀ {l : List Oper}, matRcv l t0 t1 nt = true → ∃ o1 o2, l = [o1, o2]
  | [], h => by simp [matRcv] at h
  | [_], h => by simp [matRcv] at h
  | [x, y], _ => ⟨x, y, rfl⟩
  | _ :: _ :: _ :: _, h => by simp [matRcv] at h

theorem wpOpsS_rcv {ops : Array Oper} {Q : Exit → Act → List Frame → World → Prop} {i : Nat} {rest : List Nat} {o : Oper} {cs : List Frame} (ho : ops[i]? = some o) (hg : o.guard = none) (hr : (execOp a.eval o).run P w = .ok .recover w)
    (h : match recoverD cs with | some (v, cs') => wpOpsS P ops Q rest (a.put o.dst v) cs' w | none => wpOpsS P ops Q rest (a.put o.dst .nilIface) cs w) : wpOpsS P ops Q (i :: rest) a cs w := by
  simp only [wpOpsS, ho, Region.wanted, hg, if_true, hr]
  exact h

theorem dfr_one (hcx : CxOK P cx) (hmx : P.follows .mixedOrders = true) (n : Nat) {g : FuncId} {fn : Func} {ir : FnIR} (hf : P.funcs[g]? = some fn) (hmat : matFn P fn ir = true) {t0 t1 : Nat} (hr : ir.rcv = some (t0, t1))
    {m : Option D} {u : FrameMode} {args : Array Value} {ds : List D} (hi : Inv β M H w) (hv : VT M ds β args.toList) (hm : ModeR M β m u) {x : Ex} {st : St} (hx : x = .nxt ∨ x = .ret) (hrun : run cx n ir.body ⟨(t1, rcvD m) :: (t0, rcvD m) :: argEnv 0 ds, H, []⟩ = .ok x st) (hdf : st.df = []) :
    CallsD P g args u w fun e u' w' => match e with
      | .returned _ => settle u' = .returning ∧ ∃ β' M', Step H β M w st.h β' M' w' ∧ Inv β' M' st.h w'
      | _ => False := by
  obtain ⟨c, hb, _, hnt, _, hbody⟩ := matFn_spec hmat
  simp only [matBody, hr, Bool.and_eq_true] at hbody
  obtain ⟨hres, hbody⟩ := hbody
  have hres : fn.results = #[] := by simpa using hres
  split at hbody
  · rename_i id ops rest
    simp only [Bool.and_eq_true] at hbody
    obtain ⟨hrcv, hrest⟩ := hbody
    have hops : ∃ o1 o2, ops = #[o1, o2] := by
      obtain ⟨l⟩ := ops
      obtain ⟨o1, o2, rfl⟩ := matRcv_two hrcv
      exact ⟨o1, o2, rfl⟩
    obtain ⟨o1, o2, rfl⟩ := hops
    simp only [matRcv, Bool.and_eq_true, Option.isNone_iff_eq_none, Bool.not_eq_true'] at hrcv
    obtain ⟨⟨⟨⟨⟨⟨g1, g2⟩, d1⟩, d2⟩, hne⟩, p1⟩, p2⟩ := hrcv
    obtain ⟨e1, l1⟩ := put_put_ok d1
    obtain ⟨e2, l2⟩ := put_put_ok d2
    refine callsD_of_wpS hf hb ?_
    intro c₀ cs hu
    refine wpS_seq (wpS_region ?_)
    have hrange : List.range (#[o1, o2] : Array Oper).size = [0, 1] := rfl
    rw [hrange]
    have hsz : ir.nt ≤ (args ++ Array.replicate (fn.ntmps - args.size) undef).size := by simp; omega
    have er0 : AR ir.nt M β { tmps := args ++ Array.replicate (fn.ntmps - args.size) undef, defers := [] } (argEnv 0 ds) [] := by
      have := args_AR (nt := ir.nt) (n := fn.ntmps) hv (by omega)
      simpa using this
    -- behind recover
    have go : ∀ (v : Value) (u' : FrameMode) (hvv : VV M β (rcvD m) v) (hset : settle u' = .returning),
        wpOpsS P #[o1, o2] (Exit.thenS (rest.wpS P (bodyPostS P fn c₀ cs fun e u' w' => match e with
            | .returned _ => settle u' = .returning ∧ ∃ β' M', Step H β M w st.h β' M' w' ∧ Inv β' M' st.h w'
            | _ => False)) (bodyPostS P fn c₀ cs fun e u' w' => match e with
            | .returned _ => settle u' = .returning ∧ ∃ β' M', Step H β M w st.h β' M' w' ∧ Inv β' M' st.h w'
            | _ => False)) [1]
          (({ tmps := args ++ Array.replicate (fn.ntmps - args.size) undef, defers := [] } : Act).put o1.dst v) ({ c₀ with mode := u' } :: cs) w := by
      intro v u' hvv hset
      have er1 := er0.put d1 hvv
      have ev1 : (({ tmps := args ++ Array.replicate (fn.ntmps - args.size) undef, defers := [] } : Act).put o1.dst v).eval (.tmp t0) = v := by
        rw [e1]
        exact put_getD_same _ t0 v (Nat.lt_of_lt_of_le (l1 t0 rfl) hsz)
      obtain ⟨o2dst, o2op, o2ty, o2pos, o2after, o2guard⟩ := o2
      simp only at p2 e2 d2 g2
      split at p2
      · rename_i t
        obtain rfl := Nat.eq_of_beq_eq_true p2
        simp only [wpOpsS, List.getElem?_toArray, List.getElem?_cons_succ, List.getElem?_cons_zero, Region.wanted, g2, if_true, execOp, Sem.run_pure, ev1]
        simp only [Oper.upon]
        have er2 := er1.put d2 hvv
        refine wpS_of_wp (code_ok hcx hmx n ir.body rest _ ⟨(t1, rcvD m) :: (_, rcvD m) :: argEnv 0 ds, H, []⟩ β M _ w hrest hi er2 ?_)
        rw [hrun]
        intro β' M' a' w' s i r
        have hd0 : a'.defers = [] := by
          have := r.df
          rw [hdf] at this
          cases hh : a'.defers with
          | nil => rfl
          | cons x y => rw [hh] at this; exact this.elim
        rcases hx with rfl | rfl
        · exact ⟨hd0, u', rfl, _, results_none hres _ _ _, hset, β', M', s, i⟩
        · exact ⟨hd0, u', rfl, _, results_none hres _ _ _, hset, β', M', s, i⟩
      · cases p2
    split at p1
    · rename_i cl hcl
      split at p1
      · rename_i hbi
        have harg : cl.args = #[] := by simpa using p1
        refine wpOpsS_rcv (o := o1) rfl g1 (exec_recover hcl hbi harg) ?_
        rcases recover_ok (cs := cs) hm hu with ⟨v, u', h1, h2, h3, h4⟩ | ⟨h1, h2, h3, h4⟩
        · rw [h1]
          exact go v u' h2 h3
        · rw [h1]
          have := go .nilIface u h2 h3
          have hc : ({ c₀ with mode := u } : Frame) = c₀ := by subst hu; rfl
          rw [hc] at this
          exact this
      · cases p1
    · cases p1
  · cases hbody

theorem leaves_ok (hcx : CxOK P cx) (hmx : P.follows .mixedOrders = true) {tbl : Nat → Option FnIR} (ht : TblOK P tbl) (n : Nat) {fn : Func} {tmps : Array Value} {R : Ending → World → Prop} {m' : Option D} {H' : Heap} :
    ∀ (dfs : List Dfd) (ds : List Deferred) (m : Option D) (u : FrameMode) (H : Heap) (β : Beta) (M : Mem) (w : World), DR M β dfs ds → Inv β M H w → ModeR M β m u → runDfs tbl cx n dfs m H = .ok (m', H') →
      (∀ u' β' M' w', Step H β M w H' β' M' w' → Inv β' M' H' w' → ModeR M' β' m' u' → Leaves P fn tmps R [] u' w') → Leaves P fn tmps R ds u w
  | [], [], m, u, H, β, M, w, hd, hi, hm, hr, h => by
    simp only [runDfs, Rs.ok.injEq, Prod.mk.injEq] at hr
    obtain ⟨rfl, rfl⟩ := hr
    exact h u β M w (Step.refl ..) hi hm
  | [], _ :: _, _, _, _, _, _, _, hd, _, _, _, _ => hd.elim
  | _ :: _, [], _, _, _, _, _, _, hd, _, _, _, _ => hd.elim
  | x :: dfs, d :: ds, m, u, H, β, M, w, hd, hi, hm, hr, h => by
    obtain ⟨⟨cap, htar, hv⟩, hds⟩ := hd
    obtain ⟨target, dargs⟩ := d
    simp only at htar hv
    subst htar
    simp only [runDfs] at hr
    split at hr
    · cases hr
    · rename_i ir htbl
      obtain ⟨g, hg, hmat⟩ := ht x.f ir htbl
      have hcl := matFn_callable hg hmat
      split at hr
      · cases hr
      · rename_i t0 t1 hrcv
        have key : ∀ {e : Ex} {st : St}, (e = .nxt ∨ e = .ret) → run cx n ir.body ⟨(t1, rcvD m) :: (t0, rcvD m) :: argEnv 0 x.args, H, []⟩ = .ok e st → st.df = [] → runDfs tbl cx n dfs none st.h = .ok (m', H') →
            Leaves P fn tmps R ({ target := .fn (.func x.f) cap, args := dargs } :: ds) u w := by
          intro e st he hrun hdf hr
          refine leaves_cons (f := x.f) (args := dargs ++ cap) hm.ne_run (by simp [invoke, run_callFunc hcl]) ?_
          refine (dfr_one hcx hmx n hg hmat hrcv hi hv hm he hrun hdf).mono ?_
          intro e' u' w' hq
          cases e' with
          | returned v =>
            obtain ⟨hset, β', M', s, i⟩ := hq
            simp only [hset]
            exact leaves_ok hcx hmx ht n dfs ds none .returning st.h β' M' w' (hds.mono s.ml s.bl) i rfl hr (fun u'' β'' M'' w'' s' i' m'' => h u'' β'' M'' w'' (s.trans s') i' m'')
          | panicked c => exact hq.elim
          | outgrown => exact hq.elim
        split at hr
        · rename_i st hrun
          split at hr
          · rename_i hdf; exact key (.inl rfl) hrun hdf hr
          · cases hr
        · rename_i st hrun
          split at hr
          · rename_i hdf; exact key (.inr rfl) hrun hdf hr
          · cases hr
        · cases hr

/-- What is owed of a call's run. -/
def CallOk (P : Program) (f : FuncId) (vs : List Value) (β : Beta) (M : Mem) (H : Heap) (w : World) : Rs (D × Heap) → Prop
  | .ok (d, H') => Calls P f vs.toArray w fun e w' => ∃ β' M' v, e = endOf false v ∧ Step H β M w H' β' M' w' ∧ Inv β' M' H' w' ∧ VV M' β' d v
  | .pan d H' => Calls P f vs.toArray w fun e w' => ∃ β' M' v, e = endOf true v ∧ Step H β M w H' β' M' w' ∧ Inv β' M' H' w' ∧ VV M' β' d v
  | .no => True

theorem fn_ok (hcx : CxOK P cx) (hmx : P.follows .mixedOrders = true) {tbl : Nat → Option FnIR} (ht : TblOK P tbl) (n : Nat) {f : FuncId} {fn : Func} {ir : FnIR} (hf : P.funcs[f]? = some fn) (hmat : matFn P fn ir = true)
    {ds : List D} {vs : List Value} (hi : Inv β M H w) (hv : VT M ds β vs) : CallOk P f vs β M H w (runFn tbl cx n ir ds H) := by
  obtain ⟨c, hb, _, hnt, hres, hbody⟩ := matFn_spec hmat
  unfold runFn
  split
  · trivial
  · rename_i hrcv
    simp only [matBody, hrcv] at hbody
    have er0 := args_AR (nt := ir.nt) (n := fn.ntmps) hv (by omega)
    -- the end
    have fin : ∀ (m : Option D) (st : St) (R : Ending → World → Prop) (r : Rs (D × Heap)), finish tbl cx n ir m st = r →
        (∀ e w' β' M' v, (match r with | .ok (d, H') => e = endOf false v ∧ Step H β M w H' β' M' w' ∧ Inv β' M' H' w' ∧ VV M' β' d v | .pan d H' => e = endOf true v ∧ Step H β M w H' β' M' w' ∧ Inv β' M' H' w' ∧ VV M' β' d v | .no => False) → R e w') → r ≠ .no →
        ∀ β1 M1 a1 w1 u, Step H β M w st.h β1 M1 w1 → Inv β1 M1 st.h w1 → AR ir.nt M1 β1 a1 st.e st.df → ModeR M1 β1 m u → Leaves P fn a1.tmps R a1.defers u w1 := by
      intro m st R r hfin hR hno β1 M1 a1 w1 u s1 i1 r1 hm
      unfold finish at hfin
      split at hfin
      · rename_i v H2 hdf
        subst hfin
        refine leaves_ok hcx hmx ht n st.df a1.defers m u st.h β1 M1 w1 r1.df i1 hm hdf ?_
        intro u' β2 M2 w2 s2 i2 hm2
        obtain ⟨v', rfl, hv'⟩ := hm2
        exact hR _ _ β2 M2 v' ⟨rfl, s1.trans s2, i2, hv'⟩
      · rename_i H2 hdf
        refine leaves_ok hcx hmx ht n st.df a1.defers m u st.h β1 M1 w1 r1.df i1 hm hdf ?_
        intro u' β2 M2 w2 s2 i2 hm2
        simp only [ModeR] at hm2
        subst hm2
        split at hfin
        · rename_i d hd
          subst hfin
          obtain ⟨v', h1, h2⟩ := res_val i2 (fun t d h => (r1.er t d h).mono s2.ml s2.bl) hres hd
          exact ⟨v', h1, hR _ _ β2 M2 v' ⟨rfl, s1.trans s2, i2, h2⟩⟩
        · subst hfin; exact absurd rfl hno
      · subst hfin; exact absurd rfl hno
    have body : ∀ (R : Ending → World → Prop), RcOk ir.nt β M H w (bodyPostD P fn R) (run cx n ir.body ⟨argEnv 0 ds, H, []⟩) → Calls P f vs.toArray w R := by
      intro R h
      exact calls_of_wp_defers hf hb (code_ok hcx hmx n ir.body c _ ⟨argEnv 0 ds, H, []⟩ β M _ w hbody hi er0 h)
    have join : ∀ (r : Rs (D × Heap)), endFn tbl cx n ir (run cx n ir.body ⟨argEnv 0 ds, H, []⟩) = r → r ≠ .no → ∀ (R : Ending → World → Prop),
        (∀ e w' β' M' v, (match r with | .ok (d, H') => e = endOf false v ∧ Step H β M w H' β' M' w' ∧ Inv β' M' H' w' ∧ VV M' β' d v | .pan d H' => e = endOf true v ∧ Step H β M w H' β' M' w' ∧ Inv β' M' H' w' ∧ VV M' β' d v | .no => False) → R e w') → Calls P f vs.toArray w R := by
      intro r hr hno R hR
      refine body R ?_
      unfold endFn at hr
      split at hr
      · rename_i st hrun
        rw [hrun]
        intro β' M' a' w' s i r'
        exact fin none st R r hr hR hno β' M' a' w' .returning s i r' rfl
      · rename_i st hrun
        rw [hrun]
        intro β' M' a' w' s i r'
        exact fin none st R r hr hR hno β' M' a' w' .returning s i r' rfl
      · rename_i d st hrun
        rw [hrun]
        intro β' M' a' w' v s i r' hv'
        exact fin (some d) st R r hr hR hno β' M' a' w' _ s i r' ⟨v, rfl, hv'⟩
      · exact absurd hr.symm hno
    generalize hr : endFn tbl cx n ir (run cx n ir.body ⟨argEnv 0 ds, H, []⟩) = r
    cases r with
    | ok p =>
      obtain ⟨d, H'⟩ := p
      refine join (.ok (d, H')) hr (by simp) _ ?_
      intro e w' β' M' v h
      exact ⟨β', M', v, h⟩
    | pan d H' =>
      refine join (.pan d H') hr (by simp) _ ?_
      intro e w' β' M' v h
      exact ⟨β', M', v, h⟩
    | no => trivial

end Go.Mini
