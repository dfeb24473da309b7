/- More operations. -/
import Derived.Test.YtacoaelokdamnaaGreatOps9
set_option linter.all false
set_option linter.unusedSimpArgs false
set_option linter.unusedVariables false
namespace Go.Mini

section
variable {P : Program} {cx : Cx} {β : Beta} {M : Mem} {H : Heap} {w : World} {a : Act} {E : Env} {o : Oper}

/-- '==' or '!=' of a slice and nil. -/
theorem run_eq_sl {b : BinOp} {neg : Bool} (hb : (match b with | .eql => !neg | .neq => neg | _ => false) = true) {t el : TypeId} (hu : P.underlying t = some (.slice el)) (xo yo : Operand) (p : Option Addr) (n c : Nat) (w : World) :
    (do eqGuard b t xo yo (.slice p n c) (.slice none 0 0); binOp b t (.slice p n c) (.slice none 0 0) : Sem Value).run P w = .ok (.bool (neg != p.isNone)) w := by
  have h0 : ∀ d, (Op.equalIn (d + 1) t (.slice p n c) (.slice none 0 0)).run P w = .ok p.isNone w := by
    intro d
    simp only [Op.equalIn, Sem.run_bind, run_underlying hu, Result.andThen_ok]
    cases p <;> rfl
  have h1 : (Op.equal t (.slice p n c) (.slice none 0 0)).run P w = .ok p.isNone w := h0 9999
  have h2 : (eqGuard b t xo yo (.slice p n c) (.slice none 0 0)).run P w = .ok () w := run_eqGuard_atom (by simp) rfl w
  cases b <;> simp only [Bool.false_eq_true] at hb
  · have hn : neg = false := by simpa using hb
    subst hn
    simp only [Sem.run_bind, h2, Result.andThen_ok, binOp, h1]
    simp
  · subst hb
    simp only [Sem.run_bind, h2, Result.andThen_ok, binOp, h1]
    simp

theorem eqn_ok {neg : Bool} {x y : Opd} (hm : matOp P o.op (.eqk .nils neg x y) = true) (hi : Inv β M H w) (he : HE M β a E (IOp.tmps (.eqk .nils neg x y))) : OpOk P o a w β M H (iev cx (.eqk .nils neg x y) E H) := by
  obtain ⟨dst, op', ty, pos, after, guard⟩ := o
  simp only [iev]
  simp only [IOp.tmps] at he
  simp only [matOp] at hm
  split at hm
  · rename_i b t x' y' t'
    simp only [Bool.and_eq_true] at hm
    obtain ⟨⟨⟨h1, h2⟩, h3⟩, h4⟩ := hm
    split
    · rename_i d1 d2 hx hy
      have v1 := opd_sound h2 (he_l he) hx
      split
      · rename_i r hr
        refine ok_same (w' := w) (v := .bool (neg != r)) hi (eq_exec ?_) (Grew.refl w) VV_bool
        split at h4
        · rename_i el hu
          have key : ∀ {p : Option Addr} {n c : Nat}, a.eval x' = .slice p n c → r = p.isNone → (do eqGuard b t x' (.const (.slice none 0 0)) (a.eval x') (a.eval (.const (.slice none 0 0))); binOp b t (a.eval x') (a.eval (.const (.slice none 0 0))) : Sem Value).run P w = .ok (.bool (neg != r)) w := by
            intro p n c hp hr
            rw [hp, hr]
            exact run_eq_sl h1 hu _ _ p n c w
          simp only [eqkD] at hr
          split at hr
          · cases hr
            obtain ⟨ad, c, q1, _, q2, _⟩ := VV_lit v1
            exact key q1 (by rw [q2.1]; rfl)
          · cases hr
            obtain ⟨ad, c, q1, _, q2, _⟩ := VV_lit v1
            refine key q1 ?_
            have : ad ≠ none := q2.2
            cases ad with
            | none => exact absurd rfl this
            | some _ => rfl
          · cases hr
            obtain ⟨ad, c, q1, _, q2, _⟩ := VV_lit v1
            refine key q1 ?_
            have : ad ≠ none := q2
            cases ad with
            | none => exact absurd rfl this
            | some _ => rfl
          · cases hr
            obtain ⟨ad, c, q1, _, q2, q3⟩ := VV_lit v1
            refine key q1 ?_
            rcases q3 with q3 | ⟨blk, off, e, bo, cs, q3, _⟩
            · cases q3
            · rw [q3]; rfl
          · cases hr
            obtain ⟨blk, sh, C, c, q1, _⟩ := VV_sl v1
            exact key q1 rfl
          · cases hr
        · cases h4
      · trivial
    · trivial
  · cases hm

theorem idx_ok {x i : Opd} {e N : Nat} {ag : Bool} (hm : matOp P o.op (.idx x i e N ag) = true) (hi : Inv β M H w) (he : HE M β a E (IOp.tmps (.idx x i e N ag))) : OpOk P o a w β M H (iev cx (.idx x i e N ag) E H) := by
  obtain ⟨dst, op', ty, pos, after, guard⟩ := o
  simp only [iev]
  simp only [IOp.tmps] at he
  simp only [matOp] at hm
  split at hm
  · rename_i t y j
    simp only [Bool.and_eq_true] at hm
    obtain ⟨⟨h1, h2⟩, h3⟩ := hm
    split at h3
    · rename_i N' el hu
      simp only [Bool.and_eq_true] at h3
      obtain ⟨h3, h4⟩ := h3
      obtain rfl := Nat.eq_of_beq_eq_true h3
      split at h4
      · rename_i m b' a' ht
        simp only [Bool.and_eq_true, Bool.or_eq_true, beq_iff_eq] at h4
        obtain ⟨⟨h6, rfl⟩, h7⟩ := h4
        obtain rfl := Nat.eq_of_beq_eq_true h6
        split
        · rename_i xs jd hx hj
          obtain ⟨cs, h8, h9, h10⟩ := VV_agg_inv (opd_sound h1 (he_l he) hx)
          split
          · rename_i n hn
            split
            · rename_i hlt
              have hlt := Nat.le_of_ble_eq_true hlt
              obtain ⟨k, ii, hjv, h0, hin⟩ := idx_spec hn (opd_sound h2 (he_r he) hj)
              refine ofV_ok fun d hd => ?_
              obtain ⟨v, h11, h12⟩ := run_part (P := P) (w := w) ht (agOr h7) h10 h9 hd
              have hrange : 0 ≤ ii ∧ ii < (N : Int) := ⟨h0, by omega⟩
              exact ok_same (w' := w) hi (by simp [execOp, Instr.index, hjv, asIntOf, run_underlying hu, h8, hrange, run_sizeOf' ht, hin, h11]) (Grew.refl w) h12
            · trivial
          · trivial
        · trivial
      · cases h4
    · cases h3
  · cases hm

theorem ids_ok {x i : Opd} (hm : matOp P o.op (.ids x i) = true) (hi : Inv β M H w) (he : HE M β a E (IOp.tmps (.ids x i))) : OpOk P o a w β M H (iev cx (.ids x i) E H) := by
  obtain ⟨dst, op', ty, pos, after, guard⟩ := o
  simp only [iev]
  simp only [IOp.tmps] at he
  simp only [matOp] at hm
  split at hm
  · rename_i t y j
    simp only [Bool.and_eq_true] at hm
    obtain ⟨⟨h1, h2⟩, h3⟩ := hm
    split at h3
    · rename_i hu
      split
      · rename_i s jd hx hj
        split
        · rename_i n hn
          split
          · rename_i bt hb
            obtain ⟨k, ii, hjv, h0, hin⟩ := idx_spec hn (opd_sound h2 (he_r he) hj)
            have hs := (VV_s_inv (opd_sound h1 (he_l he) hx)).1
            have hlt : n < s.data.size := (Array.getElem?_eq_some_iff.1 hb).1
            have hget : s[n]? = some bt := by
              have hlt' : n < s.size := hlt
              rw [getElem?_pos s n hlt']
              have := (Array.getElem?_eq_some_iff.1 hb).2
              exact congrArg some this
            refine ok_same (w' := w) (v := .int .u8 bt.toNat) hi ?_ (Grew.refl w) VV_int
            simp [execOp, Instr.index, hjv, asIntOf, run_underlying hu, hs, h0, hin, hget]
          · trivial
        · trivial
      · trivial
    · cases h3
  · cases hm

theorem tas_ok {u : TypeId} {x : Opd} (hm : matOp P o.op (.tas u x) = true) (hi : Inv β M H w) (he : HE M β a E (IOp.tmps (.tas u x))) : OpOk P o a w β M H (iev cx (.tas u x) E H) := by
  obtain ⟨dst, op', ty, pos, after, guard⟩ := o
  simp only [iev]
  simp only [IOp.tmps] at he
  simp only [matOp] at hm
  split at hm
  · rename_i y xt t ok
    simp only [Bool.and_eq_true, Bool.not_eq_true'] at hm
    obtain ⟨⟨⟨rfl, h1⟩, h2⟩, h3⟩ := hm
    obtain rfl := Nat.eq_of_beq_eq_true h1
    split
    · rename_i u d hx
      split
      · rename_i hb
        obtain rfl := Nat.eq_of_beq_eq_true hb
        obtain ⟨v, e1, hv⟩ := VV_ifc_inv (opd_sound h2 he hx)
        cases hu : P.underlying u with
        | none => rw [hu] at h3; cases h3
        | some dd =>
          rw [hu] at h3
          have hr : (Instr.typeAssert (a.eval y) xt u false).run P w = .ok v w := by
            rw [e1]
            cases dd <;> simp only [Bool.false_eq_true] at h3 <;> simp [Instr.typeAssert, run_underlying hu]
          exact ok_same (w' := w) hi (by simp [execOp, hr]) (Grew.refl w) hv
      · trivial
    · trivial
  · cases hm

theorem cap_ok {x : Opd} (hm : matOp P o.op (.cap x) = true) (hi : Inv β M H w) (he : HE M β a E (IOp.tmps (.cap x))) : OpOk P o a w β M H (iev cx (.cap x) E H) := by
  obtain ⟨dst, op', ty, pos, after, guard⟩ := o
  simp only [iev]
  simp only [IOp.tmps] at he
  simp only [matOp] at hm
  split at hm
  · rename_i c
    obtain ⟨callee, args, argTypes⟩ := c
    simp only [Bool.and_eq_true] at hm
    obtain ⟨⟨h1, h2⟩, h3⟩ := hm
    obtain ⟨y, rfl, h2'⟩ := matOpds_one h2
    split at h1
    · split
      · rename_i d hd
        split
        · rename_i n hn
          have hv := opd_sound h2' he hd
          have key : ∃ ad m, a.eval y = .slice ad m n := by
            unfold capD at hn
            split at hn
            · cases hn
              obtain ⟨ad, c, q1, _, q2, _⟩ := VV_lit hv
              exact ⟨ad, _, by rw [q1, q2.2]⟩
            · cases hn
              obtain ⟨ad, c, q1, _, q2, _⟩ := VV_lit hv
              exact ⟨ad, _, by rw [q1, q2.1]⟩
            · cases hn
              obtain ⟨ad, c, q1, _, q2, _⟩ := VV_lit hv
              exact ⟨ad, _, by rw [q1, q2.1]⟩
            · rename_i b off n0 esz ag cp
              obtain ⟨blk, sh, C, c, q1, q2, q3, q4, q5, q6, q7⟩ := VV_sl hv
              split at hn
              · cases hn
                exact ⟨_, _, by rw [q1, q5 _ rfl]⟩
              · split at hn
                · rename_i xs hc
                  cases hn
                  obtain ⟨hM, cs, el, hg, hC, hsh, hcl, hve⟩ := hi.live _ blk sh C false xs q2 (cellsOf_some hc)
                  have q4 := q4 rfl
                  have hcl := hcl rfl
                  have hx : xs.length - off = c * esz := by omega
                  exact ⟨_, _, by rw [q1, hx, Nat.mul_div_cancel c q7]⟩
                · cases hn
            · cases hn
          obtain ⟨ad, m, hk⟩ := key
          split at h3
          · rename_i t ht
            split at h3
            · rename_i el hu
              exact ok_same (w' := w) (v := .int .i64 n) hi (by simp [execOp, resolve, invoke, Deferred.ofValue, builtin, Builtin.cap_, ht, run_underlying hu, hk, goInt]) (Grew.refl w) VV_int
            · cases h3
          · cases h3
        · trivial
      · trivial
    · cases h1
  · cases hm

theorem VV_unit : VV M β (.tup []) (.tuple #[]) := by
  refine ⟨rfl, ?_⟩
  simp only [VF, VT, Value.cells]
  exact ⟨#[], rfl, rfl⟩

theorem clr_ok {x : Opd} {e : Nat} {zs : List D} (hm : matOp P o.op (.clr x e zs) = true) (hi : Inv β M H w) (he : HE M β a E (IOp.tmps (.clr x e zs))) : OpOk P o a w β M H (iev cx (.clr x e zs) E H) := by
  obtain ⟨dst, op', ty, pos, after, guard⟩ := o
  simp only [iev]
  simp only [IOp.tmps] at he
  simp only [matOp] at hm
  split at hm
  · rename_i c
    obtain ⟨callee, args, argTypes⟩ := c
    simp only [Bool.and_eq_true] at hm
    obtain ⟨⟨h1, h2⟩, h3⟩ := hm
    obtain ⟨y, rfl, h2'⟩ := matOpds_one h2
    split at h1
    · split at h3
      · rename_i t ht
        split at h3
        · rename_i el hel
          simp only [Bool.and_eq_true] at h3
          obtain ⟨⟨h4, h5⟩, h6⟩ := h3
          have h5 := Nat.eq_of_beq_eq_true h5
          have h6 := Nat.le_of_ble_eq_true h6
          have hu := elemT_spec hel
          obtain ⟨i, z, q1, q2, q3⟩ := zeroOk_spec h4
          split
          · rename_i d hd
            split
            · rename_i H' hc
              have hv := opd_sound h2' he hd
              unfold clrD at hc
              split at hc
              · cases hc
                obtain ⟨ad, c, k1, _⟩ := VV_lit hv
                refine ok_same (w' := w) (v := .tuple #[]) hi ?_ (Grew.refl w) VV_unit
                simp only [List.length_nil] at k1
                cases ad <;> simp [execOp, resolve, invoke, Deferred.ofValue, builtin, Builtin.clear_, ht, run_underlying hu, k1]
              · rename_i b off n esz ag cp
                obtain ⟨blk, sh, C, c, k1, k2, k3, k4, k5, k6, k7⟩ := VV_sl hv
                split at hc
                · rename_i hb
                  obtain rfl := Nat.eq_of_beq_eq_true hb
                  split at hc
                  · cases hc
                    refine ok_same (w' := w) (v := .tuple #[]) hi ?_ (Grew.refl w) VV_unit
                    simp [execOp, resolve, invoke, Deferred.ofValue, builtin, Builtin.clear_, ht, run_underlying hu, k1]
                  · rename_i hn0
                    have hsz : z.cells.size = e := by
                      have := (zsOk_spec q3 (fun _ => none) nob).1
                      simpa [h5] using this
                    obtain ⟨r1, r2⟩ := made_cells (n := n) q3 h5 h6 M β
                    obtain ⟨w', s1, s2, s3⟩ := run_setCells (P := P) (vs := ((Array.range (n * e)).map (z.cells[· % z.cells.size]!)).toList) hi k2 hc (by simpa using r1) r2
                    refine ok_value (w' := w') (v := .tuple #[]) ?_ s2 s3 VV_unit
                    have hzc : Builtin.zeroCells z.cells n = (Array.range (n * e)).map (z.cells[· % z.cells.size]!) := by
                      unfold Builtin.zeroCells
                      rw [hsz]
                    cases n with
                    | zero => exact absurd rfl hn0
                    | succ n =>
                    rw [← hzc] at s1
                    simp [execOp, resolve, invoke, Deferred.ofValue, builtin, Builtin.clear_, ht, run_underlying hu, k1, zeroValue, typeInfo, q1, q2, s1]
                · cases hc
              · cases hc
            · trivial
          · trivial
        · cases h3
      · cases h3
    · cases h1
  · cases hm

end
end Go.Mini
