/- Calls, as operations. -/
import Derived.Test.YtacoaelokdamnaaGreatFrz
import Derived.Test.YtacoaelokdamnaaGreatOps11
set_option linter.all false
set_option linter.unusedSimpArgs false
set_option linter.unusedVariables false
namespace Go.Mini

variable {P : Program} {cx : Cx} {β : Beta} {M : Mem} {H : Heap} {w : World} {a : Act} {E : Env} {o : Oper}

theorem Inv.bare (h : Inv β M H w) : Inv nob M [] w where
  mem := h.mem
  dom := fun b c h => by simp [nob] at h
  live := fun b blk sh C opn xs h => by simp [nob] at h
  inj := fun b b' c c' _ _ _ _ h => by simp [nob] at h

/-- A call's ending with a value, or with a panic's. -/
def endOf (pan : Bool) (v : Value) : Ending := if pan then .panicked [{ v, recovered := false }] else .returned v

/-- What is known of a pure call. -/
def PureOK (P : Program) (f : FuncId) (ds : List D) (pan : Bool) (d : D) : Prop :=
  ∀ M w vs, Inv nob M [] w → VT M ds nob vs → Calls P f vs.toArray w fun e w' => ∃ M' v, e = endOf pan v ∧ Step [] nob M w [] nob M' w' ∧ Inv nob M' [] w' ∧ VV M' nob d v

/-- What is known of a call in a heap. -/
def LiveOK (P : Program) (f : FuncId) (ds : List D) (H : Heap) (pan : Bool) (d : D) (H' : Heap) : Prop :=
  ∀ β M w vs, Inv β M H w → VT M ds β vs → Calls P f vs.toArray w fun e w' => ∃ β' M' v, e = endOf pan v ∧ Step H β M w H' β' M' w' ∧ Inv β' M' H' w' ∧ VV M' β' d v

def callable (P : Program) (f : FuncId) : Prop := ∃ fn, P.funcs[f]? = some fn ∧ fn.body.isSome = true ∧ fn.name ≠ "runtime.NumGoroutine"

structure CxOK (P : Program) (cx : Cx) : Prop where
  pok : ∀ f k ds d, cx.pc f k ds = .ok d → callable P f ∧ PureOK P f ds false d
  ppan : ∀ f k ds d h, cx.pc f k ds = .pan d h → callable P f ∧ PureOK P f ds true d
  lok : ∀ f k ds H d H', cx.lc f k ds H = .ok (d, H') → callable P f ∧ LiveOK P f ds H false d H'
  lpan : ∀ f k ds H d H', cx.lc f k ds H = .pan d H' → callable P f ∧ LiveOK P f ds H true d H'
  fo : ∀ g, cx.fo g = true → FofOK P g
  nw : ∀ f ds H d B, cx.nw f ds H = some (d, B) → callable P f ∧ LiveOK P f ds H false d (H ++ B.toList)
  of : ∀ g, cx.of g = true → OffOK P g

theorem run_callFunc {f : FuncId} {args : Array Value} (h : callable P f) (w : World) : (callFunc f args).run P w = .ok (.enter f args) w := by
  obtain ⟨fn, h1, h2, h3⟩ := h
  obtain ⟨c, hc⟩ := Option.isSome_iff_exists.1 h2
  simp [callFunc, h1, h3, hc]

/-- The memory behind a call that borrowed: what was the caller's, and what is new. -/
noncomputable def Mback (M M' : Mem) (sz : Nat) : Mem := fun blk =>
  match M blk with
  | some c => some c
  | none => match M' blk with
    | some (false, cs) => if sz ≤ blk then some (false, cs) else none
    | _ => none

theorem VT_isFz {M : Mem} : ∀ {ds : List D} {β β' : Beta} {l : List Value}, isFzs ds = true → VT M ds β l → VT M ds β' l := fun h hv => VT_fz _ h hv

/-- A pure call out of a heap. -/
theorem pure_sound {f : FuncId} {ds es : List D} {bo pan : Bool} {d : D} {vs : List Value} (hi : Inv β M H w) (hv : VT M ds β vs) (hf : fzArgs H ds = some (es, bo)) (hn : (!bo || nobor d) = true) (hp : PureOK P f es pan d) :
    Calls P f vs.toArray w fun e w' => ∃ M' v, e = endOf pan v ∧ Step H β M w H β M' w' ∧ Inv β M' H w' ∧ VV M' β d v := by
  unfold fzArgs at hf
  split at hf
  · rename_i hfz
    cases hf
    refine (hp M w vs hi.bare (VT_fz _ hfz hv)).mono ?_
    rintro e w' ⟨M', v, rfl, hs, hi', hvv⟩
    have hg : Grew w w' := ⟨hs.os, hs.tape, hs.output, hs.size, fun blk hb => hs.frame blk hb (fun b c h => by simp [nob] at h)⟩
    have hgi := hi.grew hg
    refine ⟨M', v, rfl, ?_, ?_, hvv.mono M'.le_refl (nob_le β)⟩
    · exact ⟨Nat.le_refl _, β.le_refl, hs.ml, fun _ _ h => .inl h, hs.mnew, hs.os, hs.tape, hs.output, hs.size, fun blk hb _ => hg.heap blk hb⟩
    · refine ⟨hi'.mem, hgi.dom, ?_, hi.inj⟩
      intro b blk sh C opn xs h1 h2
      obtain ⟨h3, cs, e, h4, h5, h6, h7, h8⟩ := hgi.live b blk sh C opn xs h1 h2
      refine ⟨?_, cs, e, h4, h5, h6, h7, VE_mono hs.ml _ β.le_refl h8⟩
      cases hm : M' blk with
      | none => rfl
      | some c =>
        rcases hs.mnew blk c hm with h | ⟨h, _⟩
        · rw [h3] at h; cases h
        · have := (hi.dom b _ h1).2
          simp only at this
          omega
  · split at hf
    · rename_i es' hes
      cases hf
      simp only [Bool.not_true, Bool.false_or] at hn
      have hvz : VT (Mz true β H w M) es nob vs := VT_optMap (fun x y l hx h => fz_VF hi 24 x y l hx h) (fun x y hx => (fz_shape 24 hx).1) hes hv
      refine (hp (Mz true β H w M) w vs (Mz_inv hi) hvz).mono ?_
      rintro e w' ⟨M', v, rfl, hs, hi', hvv⟩
      have hg : Grew w w' := ⟨hs.os, hs.tape, hs.output, hs.size, fun blk hb => hs.frame blk hb (fun b c h => by simp [nob] at h)⟩
      have hgi := hi.grew hg
      have hle : M.le (Mback M M' w.heap.size) := fun blk c h => by unfold Mback; rw [h]
      have hback : ∀ blk c, Mback M M' w.heap.size blk = some c → M blk = some c ∨ (M blk = none ∧ w.heap.size ≤ blk ∧ c.1 = false ∧ M' blk = some c) := by
        intro blk c h
        unfold Mback at h
        split at h
        · rename_i c' hc; cases h; exact .inl hc
        · rename_i hc
          split at h
          · rename_i cs hcs
            split at h
            · rename_i hsz; cases h; exact .inr ⟨hc, hsz, rfl, hcs⟩
            · cases h
          · cases h
      refine ⟨Mback M M' w.heap.size, v, rfl, ?_, ?_, ?_⟩
      · refine ⟨Nat.le_refl _, β.le_refl, hle, fun _ _ h => .inl h, ?_, hs.os, hs.tape, hs.output, hs.size, fun blk hb _ => hg.heap blk hb⟩
        intro blk c h
        rcases hback blk c h with h | ⟨_, h1, h2, _⟩
        · exact .inl h
        · exact .inr ⟨h1, h2⟩
      · refine ⟨?_, hgi.dom, ?_, hi.inj⟩
        · intro blk bo cs h
          rcases hback blk (bo, cs) h with h | ⟨_, _, _, h⟩
          · exact hgi.mem blk bo cs h
          · exact hi'.mem blk bo cs h
        · intro b blk sh C opn xs h1 h2
          obtain ⟨h3, cs, e, h4, h5, h6, h7, h8⟩ := hgi.live b blk sh C opn xs h1 h2
          refine ⟨?_, cs, e, h4, h5, h6, h7, VE_mono hle _ β.le_refl h8⟩
          cases hm : Mback M M' w.heap.size blk with
          | none => rfl
          | some c =>
            rcases hback blk c hm with h | ⟨_, h, _, _⟩
            · rw [h3] at h; cases h
            · have := (hi.dom b _ h1).2
              simp only at this
              omega
      · have hv2 : VV (Mback M M' w.heap.size) nob d v := by
          refine ⟨hvv.1, VF_nobor ?_ d hn hvv.2⟩
          intro blk cs h
          rcases hs.mnew blk _ h with h1 | ⟨h1, _⟩
          · rcases Mz_new h1 with h2 | ⟨_, h2, _, _⟩
            · exact hle _ _ h2
            · cases h2
          · unfold Mback
            cases hm : M blk with
            | some c =>
              obtain ⟨bo, cs'⟩ := c
              obtain ⟨e, fr, hh⟩ := hi.mem blk bo cs' hm
              exact absurd (lt_of_some hh) (by omega)
            | none => simp only [h, h1, if_true]
        exact hv2.mono (Mback M M' w.heap.size).le_refl (nob_le β)
    · cases hf

theorem PureOK_canon {f : FuncId} {es : List D} {pan : Bool} {d : D} (h : PureOK P f (canons es) pan d) : PureOK P f es pan d :=
  fun M w vs hi hv => h M w vs hi (VT_canons hv)

/-- A call: what is owed. -/
theorem call_wp {f : FuncId} {args : Array Value} {pan : Bool} {d : D} {H' : Heap} {next : Act → World → Prop} {Q : Exit → Act → World → Prop}
    (hr : (execOp a.eval o).run P w = .ok (.enter f args) w) (hc : Calls P f args w fun e w' => ∃ β' M' v, e = endOf pan v ∧ Step H β M w H' β' M' w' ∧ Inv β' M' H' w' ∧ VV M' β' d v)
    (h : ∀ v β' M' w', Step H β M w H' β' M' w' → Inv β' M' H' w' → VV M' β' d v → if pan then Q (.panic [{ v, recovered := false }]) a w' else next (a.put o.dst v) w') : o.wp P a w next Q := by
  unfold Oper.wp
  rw [hr]
  simp only [Oper.upon]
  refine hc.mono ?_
  rintro e w' ⟨β', M', v, rfl, h1, h2, h3⟩
  have := h v β' M' w' h1 h2 h3
  unfold endOf
  cases pan
  · simpa using this
  · simpa using this

theorem callD_ok {live : Bool} {f k : Nat} {ds : List D} {vs : List Value} (hcx : CxOK P cx) (hi : Inv β M H w) (hv : VT M ds β vs) (hr : callable P f → (execOp a.eval o).run P w = .ok (.enter f vs.toArray) w) :
    OpOk P o a w β M H (callD cx live f k ds H) := by
  unfold callD
  cases live with
  | true =>
    simp only []
    cases hc : cx.lc f k ds H with
    | ok r =>
      obtain ⟨d, H'⟩ := r
      obtain ⟨h1, h2⟩ := hcx.lok f k ds H d H' hc
      intro next Q h
      exact call_wp (pan := false) (hr h1) (h2 β M w vs hi hv) (fun v β' M' w' q1 q2 q3 => by simpa using h v β' M' w' q1 q2 q3)
    | pan d H' =>
      obtain ⟨h1, h2⟩ := hcx.lpan f k ds H d H' hc
      intro next Q h
      exact call_wp (pan := true) (hr h1) (h2 β M w vs hi hv) (fun v β' M' w' q1 q2 q3 => by simpa using h v β' M' w' q1 q2 q3)
    | no => trivial
  | false =>
    simp only []
    split
    · trivial
    · rename_i es bo hes
      split
      · rename_i d hd
        split
        · rename_i hn
          obtain ⟨h1, h2⟩ := hcx.pok f k (canons es) d hd
          intro next Q h
          refine call_wp (pan := false) (hr h1) ((pure_sound hi hv hes hn (PureOK_canon h2)).mono ?_) (fun v β' M' w' q1 q2 q3 => by simpa using h v β' M' w' q1 q2 q3)
          rintro e w' ⟨M', v, g1, g2, g3, g4⟩
          exact ⟨β, M', v, g1, g2, g3, g4⟩
        · trivial
      · rename_i d h0 hd
        split
        · rename_i hn
          obtain ⟨h1, h2⟩ := hcx.ppan f k (canons es) d h0 hd
          intro next Q h
          refine call_wp (pan := true) (hr h1) ((pure_sound hi hv hes hn (PureOK_canon h2)).mono ?_) (fun v β' M' w' q1 q2 q3 => by simpa using h v β' M' w' q1 q2 q3)
          rintro e w' ⟨M', v, g1, g2, g3, g4⟩
          exact ⟨β, M', v, g1, g2, g3, g4⟩
        · trivial
      · trivial

theorem call_ok {live : Bool} {f k : Nat} {xs : List Opd} (hcx : CxOK P cx) (hm : matOp P o.op (.call live f k xs) = true) (hi : Inv β M H w) (he : HE M β a E (IOp.tmps (.call live f k xs))) : OpOk P o a w β M H (iev cx (.call live f k xs) E H) := by
  obtain ⟨dst, op', ty, pos, after, guard⟩ := o
  simp only [iev]
  simp only [IOp.tmps] at he
  simp only [matOp] at hm
  split at hm
  · rename_i c
    obtain ⟨callee, args, argTypes⟩ := c
    simp only [Bool.and_eq_true] at hm
    obtain ⟨h1, h2⟩ := hm
    split at h1
    · rename_i g
      obtain rfl := Nat.eq_of_beq_eq_true h1
      split
      · rename_i ds hds
        have hv := opds_sound h2 he hds
        refine callD_ok hcx hi hv ?_
        intro hc
        have ef : a.eval (Operand.func f) = Value.func (.func f) #[] #[] := rfl
        have hmap : (args.map a.eval) = (args.toList.map a.eval).toArray := by apply Array.ext'; simp
        simp [execOp, resolve, Deferred.ofValue, ef, invoke, run_callFunc hc, hmap]
      · trivial
    · cases h1
  · cases hm

theorem VT_append : ∀ {xs ys : List D} {l r : List Value}, VT M xs β l → VT M ys β r → VT M (xs ++ ys) β (l ++ r)
  | [], ys, l, r, h, k => by simp only [VT] at h; subst h; simpa using k
  | x :: xs, ys, l, r, h, k => by
    simp only [VT, List.cons_append] at h ⊢
    obtain ⟨v, s, rfl, h2, h3, h4⟩ := h
    exact ⟨v, s ++ r, rfl, h2, h3, VT_append h4 k⟩

theorem clv_ok {live : Bool} {x : Opd} {xs : List Opd} (hcx : CxOK P cx) (hm : matOp P o.op (.clv live x xs) = true) (hi : Inv β M H w) (he : HE M β a E (IOp.tmps (.clv live x xs))) : OpOk P o a w β M H (iev cx (.clv live x xs) E H) := by
  obtain ⟨dst, op', ty, pos, after, guard⟩ := o
  simp only [iev]
  simp only [IOp.tmps] at he
  simp only [matOp] at hm
  split at hm
  · rename_i c
    obtain ⟨callee, args, argTypes⟩ := c
    simp only [Bool.and_eq_true] at hm
    obtain ⟨h1, h2⟩ := hm
    split at h1
    · rename_i y
      split
      · rename_i f first cap ds hx hds
        have hvx := opd_sound h1 (he_l he) hx
        have hv := opds_sound h2 (he_r he) hds
        have hvn := VV_nonagg hvx rfl
        simp only [VF, List.cons.injEq, and_true] at hvn
        obtain ⟨fs, cs, e1, g1, g2⟩ := hvn
        refine callD_ok (vs := fs.toList ++ args.toList.map a.eval ++ cs.toList) hcx hi (VT_append (VT_append g1 hv) g2) ?_
        intro hc
        have hmap : fs ++ args.map a.eval ++ cs = (fs.toList ++ args.toList.map a.eval ++ cs.toList).toArray := by apply Array.ext'; simp
        simp [execOp, resolve, Deferred.ofValue, e1, invoke, run_callFunc hc]
      · trivial
    · cases h1
  · cases hm

theorem nwc_ok {f : Nat} {xs : List Opd} (hcx : CxOK P cx) (hm : matOp P o.op (.nwc f xs) = true) (hi : Inv β M H w) (he : HE M β a E (IOp.tmps (.nwc f xs))) : OpOk P o a w β M H (iev cx (.nwc f xs) E H) := by
  obtain ⟨dst, op', ty, pos, after, guard⟩ := o
  simp only [iev]
  simp only [IOp.tmps] at he
  simp only [matOp] at hm
  split at hm
  · rename_i c
    obtain ⟨callee, args, argTypes⟩ := c
    simp only [Bool.and_eq_true] at hm
    obtain ⟨h1, h2⟩ := hm
    split at h1
    · rename_i g
      obtain rfl := Nat.eq_of_beq_eq_true h1
      split
      · rename_i ds hds
        have hv := opds_sound h2 he hds
        have ef : a.eval (Operand.func f) = Value.func (.func f) #[] #[] := rfl
        have hmap : (args.map a.eval) = (args.toList.map a.eval).toArray := by apply Array.ext'; simp
        have key : ∀ d B, cx.nw f ds H = some (d, B) → OpOk P ⟨dst, .call ⟨.value (.func f), args, argTypes⟩, ty, pos, after, guard⟩ a w β M H (.ok (d, H ++ B.toList)) := by
          intro d B hB
          obtain ⟨hc, h3⟩ := hcx.nw f ds H d B hB
          intro next Q h
          refine call_wp (pan := false) (f := f) (args := (args.toList.map a.eval).toArray) ?_ (h3 β M w _ hi hv) (fun v β' M' w' q1 q2 q3 => by simpa using h v β' M' w' q1 q2 q3)
          simp [execOp, resolve, Deferred.ofValue, ef, invoke, run_callFunc hc, hmap]
        split
        · rename_i d hd
          simpa using key d none hd
        · rename_i d B hd
          split
          · simpa using key d (some B) hd
          · trivial
        · trivial
      · trivial
    · cases h1
  · cases hm

/-- Which operations are calls. -/
theorem iev_ok {op : IOp} (hcx : CxOK P cx) (hm : matOp P o.op op = true) (hi : Inv β M H w) (he : HE M β a E op.tmps) : OpOk P o a w β M H (iev cx op E H) := by
  cases op with
  | mov => exact mov_ok hm hi he
  | pick => exact pick_ok hm hi he
  | alloc => exact alloc_ok hm hi
  | box => exact box_ok hm hi he
  | bxl => exact bxl_ok hm hi he
  | s2s => exact s2s_ok hm hi he
  | flt => exact flt_ok hm hi he
  | build => exact build_ok hm hi he
  | bsl => exact bsl_ok hm hi he
  | load => exact load_ok hm hi he
  | store => exact store_ok hm hi he
  | nck => exact nck_ok hm hi he
  | bin => exact bin_ok hm hi he
  | eqk k =>
    cases k with
    | cells ks => exact eqc_ok hm hi he
    | nilp => exact eqk_ok hm (by simp) (by simp) hi he
    | nili => exact eqk_ok hm (by simp) (by simp) hi he
    | nils => exact eqn_ok hm hi he
    | bools => exact eqk_ok hm (by simp) (by simp) hi he
  | un => exact un_ok hm hi he
  | cvi => exact cvi_ok hm hi he
  | fad => exact fad_ok hm hi he
  | ixa => exact ixa_ok hm hi he
  | slc => exact slc_ok hm hi he
  | sls => exact sls_ok hm hi he
  | sla => exact sla_ok hm hi he
  | fld => exact fld_ok hm hi he
  | ext => exact ext_ok hm hi he
  | call => exact call_ok hcx hm hi he
  | clv => exact clv_ok hcx hm hi he
  | len => exact len_ok hm hi he
  | sln => exact sln_ok hm hi he
  | app => exact app_ok hm hi he
  | cpy => exact cpy_ok hm hi he
  | mn => exact mn_ok hm hi he
  | mx => exact mx_ok hm hi he
  | pan => exact pan_ok hm hi he
  | mki => exact mki_ok hm hi he
  | mkf => exact mkf_ok hm hi he
  | msl => exact msl_ok hm hi he
  | idx => exact idx_ok hm hi he
  | ids => exact ids_ok hm hi he
  | clr => exact clr_ok hm hi he
  | tas => exact tas_ok hm hi he
  | cap => exact cap_ok hm hi he
  | nwc => exact nwc_ok hcx hm hi he
  | bad => trivial
  | fof g x =>
    by_cases h : cx.fo g = true
    · have := fof_ok (cx := cx) (hcx.fo g h) hm hi he
      simp only [iev, h] at this ⊢
      exact this
    · have h : cx.fo g = false := by simpa using h
      simp only [iev, h]
      trivial
  | off g x =>
    by_cases h : cx.of g = true
    · have := off_ok (cx := cx) (hcx.of g h) hm hi he
      simp only [iev, h] at this ⊢
      exact this
    · have h : cx.of g = false := by simpa using h
      simp only [iev, h]
      trivial

end Go.Mini
